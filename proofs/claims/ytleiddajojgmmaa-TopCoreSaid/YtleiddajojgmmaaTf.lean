/- Sets of atoms; the first of the smallest good ones. Of no program. No condition. -/
import Derived.Test.YtleiddajojgmmaaNh
import Derived.Test.YtleiddajojgmmaaVr
import Derived.Test.YtleiddajojgmmaaMk
import Derived.Test.YtleiddajojgmmaaMr
import Derived.Test.YtleiddajojgmmaaMx
namespace Go.Proofs.Ytleiddajojgmmaa
open Go Go.RowKit VC
set_option linter.unusedSimpArgs false
set_option linter.unusedVariables false

def setL (n s : Nat) : List Nat := (List.range n).filter fun i => s.testBit i
def partN (b : List Atm) (l : List Nat) : List Atm := l.map fun i => b.getD i (0, [])
def intL (l : List Nat) : List Int := l.map fun (i : Nat) => (i : Int)
def Good (h : List Int) (b : List Atm) (l : List Nat) : Prop := okQ h (partN b l) = true ∧ ∃ g, IsHom h b h (partN b l) g
def SLt (l m : List Nat) : Prop := l.length < m.length ∨ l.length = m.length ∧ cmpL (intL l) (intL m) < 0
/-- What is best of the sets below S. -/
def BestO (h : List Int) (b : List Atm) (S : Nat) : Option (List Nat) → Prop
  | none => ∀ s, 1 ≤ s → s < S → ¬ Good h b (setL b.length s)
  | some l => Good h b l ∧ (∃ s, 1 ≤ s ∧ s < S ∧ l = setL b.length s) ∧ ∀ s, 1 ≤ s → s < S → Good h b (setL b.length s) → ¬ SLt (setL b.length s) l
theorem setL_succ (k s : Nat) : setL (k + 1) s = setL k s ++ (if s.testBit k = true then [k] else []) := by
  unfold setL
  rw [List.range_succ, List.filter_append]
  congr 1
  by_cases h : s.testBit k = true
  · rw [if_pos h]
    simp [List.filter, h]
  · rw [if_neg h]
    simp only [Bool.not_eq_true] at h
    simp [List.filter, h]
theorem partN_app (b : List Atm) (l m : List Nat) : partN b (l ++ m) = partN b l ++ partN b m := by simp [partN]
theorem intL_app (l m : List Nat) : intL (l ++ m) = intL l ++ intL m := by simp [intL]
theorem intL_len (l : List Nat) : (intL l).length = l.length := by simp [intL]
theorem setL_zero (n : Nat) : setL n 0 = [] := List.filter_eq_nil_iff.2 fun i _ => by simp
theorem setL_pos {n s : Nat} (h1 : 1 ≤ s) (h2 : s < 2 ^ n) : 0 < (setL n s).length := by
  rcases Nat.eq_zero_or_pos (setL n s).length with h | h
  · exfalso
    have he : setL n s = [] := List.length_eq_zero_iff.1 h
    have : s = 0 := Nat.eq_of_testBit_eq fun i => by
      rw [Nat.zero_testBit]
      rcases Nat.lt_or_ge i n with hi | hi
      · cases hb : s.testBit i with
        | false => rfl
        | true =>
          have : i ∈ setL n s := List.mem_filter.2 ⟨List.mem_range.2 hi, hb⟩
          rw [he] at this
          cases this
      · exact Nat.testBit_lt_two_pow (Nat.lt_of_lt_of_le h2 (Nat.pow_le_pow_right (by omega) hi))
    omega
  · exact h
theorem SLt.irr (l : List Nat) : ¬ SLt l l := by
  rintro (h | ⟨-, h⟩)
  · omega
  · rw [cmpL_self] at h
    omega
theorem SLt.trans {l m k : List Nat} (h1 : SLt l m) (h2 : SLt m k) : SLt l k := by
  rcases h1 with h1 | ⟨h1, h3⟩ <;> rcases h2 with h2 | ⟨h2, h4⟩
  · exact .inl (by omega)
  · exact .inl (by omega)
  · exact .inl (by omega)
  · exact .inr ⟨by omega, cmpL_lt_trans h3 h4⟩
theorem intL_inj {l m : List Nat} (h : intL l = intL m) : l = m := by
  have : (intL l).map Int.toNat = (intL m).map Int.toNat := by rw [h]
  unfold intL at this
  simpa [List.map_map, Function.comp_def] using this
theorem SLt.total {l m : List Nat} (h1 : ¬ SLt l m) (h2 : ¬ SLt m l) : l = m := by
  unfold SLt at h1 h2
  have hl : l.length = m.length := by omega
  have := cmpL_swap (intL l) (intL m)
  have h3 : ¬ cmpL (intL l) (intL m) < 0 := fun h => h1 (.inr ⟨hl, h⟩)
  have h4 : ¬ cmpL (intL m) (intL l) < 0 := fun h => h2 (.inr ⟨hl.symm, h⟩)
  exact intL_inj (cmpL_zero.1 (by omega))
section
variable {h : List Int} {b : List Atm} {s : Nat} {o : Option (List Nat)}
theorem best_new (hs : 1 ≤ s) (hB : BestO h b s o) (hbet : o = none ∨ ∃ m, o = some m ∧ SLt (setL b.length s) m) (hg : Good h b (setL b.length s)) : BestO h b (s + 1) (some (setL b.length s)) := by
  refine ⟨hg, ⟨s, hs, by omega, rfl⟩, fun s' h1 h2 hg' hlt => ?_⟩
  rcases Nat.lt_or_ge s' s with h3 | h3
  · rcases hbet with rfl | ⟨m, rfl, hm⟩
    · exact hB s' h1 h3 hg'
    · exact hB.2.2 s' h1 h3 hg' (hlt.trans hm)
  · have : s' = s := by omega
    subst this
    exact SLt.irr _ hlt
theorem best_keep (hB : BestO h b s o) (hk : ¬ Good h b (setL b.length s) ∨ ∃ m, o = some m ∧ ¬ SLt (setL b.length s) m) : BestO h b (s + 1) o := by
  cases o with
  | none =>
    intro s' h1 h2
    rcases Nat.lt_or_ge s' s with h3 | h3
    · exact hB s' h1 h3
    · have : s' = s := by omega
      subst this
      rcases hk with hk | ⟨m, hm, -⟩
      · exact hk
      · cases hm
  | some l =>
    refine ⟨hB.1, ?_, fun s' h1 h2 hg' => ?_⟩
    · obtain ⟨s', h1, h2, h3⟩ := hB.2.1
      exact ⟨s', h1, by omega, h3⟩
    rcases Nat.lt_or_ge s' s with h3 | h3
    · exact hB.2.2 s' h1 h3 hg'
    · have : s' = s := by omega
      subst this
      rcases hk with hk | ⟨m, hm, hk⟩
      · exact absurd hg' hk
      · obtain rfl : l = m := by simpa using hm
        exact hk
end
/-! ## All sets -/
theorem sub_set : ∀ {n : Nat} {l : List Nat}, l.Sublist (List.range n) → ∃ s, s < 2 ^ n ∧ l = setL n s
  | 0, l, h => ⟨0, by simp, by
    have : l = [] := by simpa using h
    rw [this]; rfl⟩
  | n + 1, l, h => by
    rw [List.range_succ, List.sublist_append_iff] at h
    obtain ⟨l1, l2, rfl, h1, h2⟩ := h
    obtain ⟨s, hs, rfl⟩ := sub_set h1
    have hnb : s.testBit n = false := Nat.testBit_lt_two_pow hs
    have h2' : l2 = [] ∨ l2 = [n] := by
      cases h2 with
      | cons _ h => exact .inl (by simpa using h)
      | cons_cons _ h => exact .inr (by simp at h; rw [h])
    rcases h2' with rfl | rfl
    · exact ⟨s, by rw [Nat.pow_succ]; omega, by rw [setL_succ, hnb]; simp⟩
    · refine ⟨s ||| 2 ^ n, ?_, ?_⟩
      · exact Nat.or_lt_two_pow (by rw [Nat.pow_succ]; omega) (Nat.pow_lt_pow_right (by omega) (by omega))
      · have e1 : setL n (s ||| 2 ^ n) = setL n s := List.filter_congr fun i hi => by
          have := List.mem_range.1 hi
          rw [Nat.testBit_or, Nat.testBit_two_pow]
          simp
          omega
        rw [setL_succ, e1, if_pos (by rw [Nat.testBit_or, Nat.testBit_two_pow]; simp)]
theorem setL_sub (n s : Nat) : (setL n s).Sublist (List.range n) := List.filter_sublist
theorem partN_all (b : List Atm) : partN b (List.range b.length) = b := by
  unfold partN
  refine List.ext_getElem (by simp) fun i h1 h2 => ?_
  simp [List.getD, h2]
theorem partN_mem {b : List Atm} {l : List Nat} (hl : ∀ i ∈ l, i < b.length) : ∀ a ∈ partN b l, a ∈ b := fun a ha => by
  obtain ⟨i, hi, rfl⟩ := List.mem_map.1 ha
  have := hl i hi
  simp only [List.getD, List.getElem?_eq_getElem this, Option.getD_some]
  exact List.getElem_mem this
theorem set_lt {n s : Nat} : ∀ i ∈ setL n s, i < n := fun i hi => List.mem_range.1 (List.mem_filter.1 hi).1
/-- There is a core. -/
theorem core_some {h : List Int} {b : List Atm} (ok : okQ h b = true) {o : Option (List Nat)} (hB : BestO h b (2 ^ b.length) o) : ∃ l, o = some l := by
  cases o with
  | some l => exact ⟨l, rfl⟩
  | none =>
    exfalso
    obtain ⟨s, hs, he⟩ := sub_set (List.Sublist.refl (List.range b.length))
    have hl := okQ_len ok
    have hg : Good h b (setL b.length s) := by
      rw [← he]
      unfold Good
      rw [partN_all]
      exact ⟨ok, _, hom_id ok fun a ha => ha⟩
    refine hB s ?_ hs hg
    rcases Nat.eq_zero_or_pos s with h0 | h0
    · subst h0
      have : (List.range b.length).length = (setL b.length 0).length := by rw [← he]
      rw [setL_zero, List.length_range, List.length_nil] at this
      omega
    · exact h0
/-- What is best is no greater than any good set. -/
theorem core_le {h : List Int} {b : List Atm} {c : List Nat} (hB : BestO h b (2 ^ b.length) (some c)) {l : List Nat} (hs : l.Sublist (List.range b.length)) (hg : Good h b l) : ¬ SLt l c := by
  obtain ⟨s, h1, rfl⟩ := sub_set hs
  have hl := okQ_len hg.1
  refine hB.2.2 s ?_ h1 hg
  rcases Nat.eq_zero_or_pos s with h0 | h0
  · subst h0
    rw [setL_zero] at hl
    simp [partN] at hl
  · exact h0
end Go.Proofs.Ytleiddajojgmmaa

/- Contract: Core, by the program. No condition. -/
namespace Go.Proofs.Ytleiddajojgmmaa
open Go Go.RowKit VC
set_option linter.unusedSimpArgs false
set_option linter.unusedVariables false

theorem pinX {α : Type} {k : Nat} {rep : World → List Value → α → Prop} {w0 w : World} {v : Value} {xs : List α} (h : SlX k rep w0 v xs) (g : Grow w0 w) : SlX k (fun _ cs x => rep w0 cs x) w v xs := by
  obtain ⟨a, c, e, h1, h2, h3, h4⟩ := h.ex
  exact ⟨a, c, e, h1, h2, h3, fun i hi => by
    obtain ⟨b, cs, e1, e2, e3, e4⟩ := h4 i hi
    exact ⟨b, cs, e1, e2, fun t u ht => g.cell (e3 t u ht), e4⟩⟩
theorem locPin {P : Program} {w0 w : World} {v : Value} {l : List Atm} (h : SlA w0 v l) (g : Grow w0 w) {i : Nat} {j : Int} (hj : j = (i : Int)) (hi : i < l.length) {zs : Array Value} (hz : zs.size = 2) {t : TypeId} {K : World → Prop}
    (hk : ∀ w2 u, Grow w w2 → w.heap.size < w2.heap.size → SlI w0 u l[i].2 → w2.cell? (Addr.add ⟨w.heap.size, 0, none⟩ 0) = some (.int .i64 l[i].1) → w2.cell? (Addr.add ⟨w.heap.size, 0, none⟩ 1) = some u → K w2) :
    ∃ (a : Addr) (m c : Nat), v = .slice (some a) m c ∧ ((0 : Int) ≤ j ∧ j < (m : Int)) ∧ ∃ cs : List Value, cs.length = 2 ∧ (∀ t u, cs[t]? = some u → w.cell? (Addr.add (a.add (Int.toNat j * 2)) t) = some u) ∧
      ∀ w1, w1 = w.alloc (.cells zs t) → ∃ cs' : Array Value, (Value.agg cs.toArray) = Value.agg cs' ∧ cs'.size = 2 ∧ ∃ w2 : World, (storeCells ⟨w.heap.size, 0, none⟩ cs'.toList).run P w1 = .ok () w2 ∧ K w2 := by
  refine SlX.rd (pinX h g) hj hi fun cs hl hr w1 hw1 => ?_
  obtain ⟨u, rfl, hu⟩ := hr
  have := setR (P := P) (cs := [.int .i64 l[i].1, u]) hw1 (by rw [hz]; rfl) (by
    intro y hy
    simp at hy
    rcases hy with rfl | rfl
    · rfl
    · exact hu.one.2) (K := K) fun w2 hg hs hc => hk w2 u hg hs hu (hc 0 _ rfl) (hc 1 _ rfl)
  rw [hz] at this
  exact this
/-- The next round of Core. -/
def CoreN (w4 : World) (h : List Int) (b : List Atm) (s : Nat) (x : Value) (w' : World) : Prop := inR ((s : Int) + 1) ∧ ((∃ (s' : Nat) (o : Option (List Nat)), (s : Int) + 1 = s' ∧ 1 ≤ s' ∧ s' ≤ 2 ^ b.length ∧ BestO h b s' o ∧ HomV w' x (o.map intL) ∧ Grow w4 w') ∧ 2 ^ b.length - Int.toNat ((s : Int) + 1) < 2 ^ b.length - Int.toNat (s : Int))
theorem core_c {w : World} {hv bv : Value} {h : List Int} {b : List Atm} (sh : SlI w hv h) (sb : SlA w bv b) :
    Calls Try.prog 20 #[.agg #[hv, bv]] w fun e w' => ∃ v o, e = .returned (.tuple #[v, .int .i64 (if okQ h b = true then 0 else 2)]) ∧ (if okQ h b = true then BestO h b (2 ^ b.length) o else o = none) ∧ HomV w' v (o.map intL) ∧ Grow w w' := by
  refine f20_calls _ ?_
  refine ⟨_, rfl, fun w1 hw1 => ?_⟩
  have g1 := alloc_grow hw1
  have s1 := alloc_size hw1
  have p0 := boxc hw1 0 hv rfl
  have p1 := boxc hw1 1 bv rfl
  refine ⟨[_, _], rfl, two p0 p1, (valid_c (sh.grow g1) (sb.gr g1)).mono ?_⟩
  rintro e w4 ⟨rfl, g4⟩
  have g04 := g1.trans g4
  refine ⟨_, rfl, condP_i (fun hn => ?_) fun hk => ?_⟩
  · have hn : ¬ okQ h b = true := by simpa using hn
    exact ⟨_, none, by rw [if_neg hn], by rw [if_neg hn], rfl, g04⟩
  have ok : okQ h b = true := by simpa using hk
  rw [if_pos ok]
  have hbl := okQ_len ok
  refine ⟨fun best set w' => ∃ (s : Nat) (o : Option (List Nat)), set = s ∧ 1 ≤ s ∧ s ≤ 2 ^ b.length ∧ BestO h b s o ∧ HomV w' best (o.map intL) ∧ Grow w4 w', fun _ set _ => 2 ^ b.length - set.toNat, ⟨1, none, rfl, by omega, Nat.one_le_two_pow, fun s h1 h2 => by omega, rfl, Grow.refl _⟩, ?_⟩
  rintro - best set w12 ⟨s, o, rfl, hs1, hs2, hB, hV, g12⟩
  have g012 := g04.trans g12
  refine ⟨_, (g4.trans g12).cell p1, SlX.ln (sb.gr g012) ⟨by omega, ?_⟩⟩
  rw [iShl_one (by omega)]
  have hM : 2 ^ b.length ≤ 2 ^ 5 := Nat.pow_le_pow_right (by omega) hbl.2.1
  refine condD (fun hlt => ?_) fun hge => ?_
  case refine_2 =>
    have hsM : ¬ s < 2 ^ b.length := fun h => hge (by exact_mod_cast h)
    have : s = 2 ^ b.length := by omega
    exact ⟨best, o, rfl, by rw [if_pos ok, ← this]; exact hB, hV, g012⟩
  have hsM : s < 2 ^ b.length := by exact_mod_cast hlt
  refine ⟨hv, (g4.trans g12).cell p0, sh.one, fun w18 hw18 => RecV.init (cs := [hv, .slice none 0 0]) hw18 rfl (by
    intro y hy
    simp at hy
    rcases hy with rfl | rfl
    · exact sh.one.2
    · rfl) fun w19 g19 s19 hC => ?_⟩
  have g019 := g012.trans g19
  refine ⟨_, ((g4.trans g12).trans g19).cell p1, SlX.ln (sb.gr g019) ?_⟩
  refine ⟨fun lv t w' => ∃ (k : Nat) (av : Value), t = k ∧ k ≤ b.length ∧ RecV w' w12.heap.size [hv, av] ∧ OwnX (fun x => w.heap.size ≤ x) 2 repA w' w19.heap.size 41 av (partN b (setL k s)) ∧ OwnI w' w19.heap.size lv (intL (setL k s)) ∧ (∀ x, lv.ownBlock = some x → av.ownBlock ≠ some x) ∧ Fr (fun i => i = w12.heap.size ∨ w19.heap.size ≤ i) w19 w', fun _ t _ => b.length - t.toNat,
    ⟨0, _, rfl, by omega, hC, OwnX.nil _ _ _, by simpa [OwnI, intL, setL] using Own.nil w19 w19.heap.size 3 1, fun x hx => (by simp [Value.ownBlock] at hx), Fr.refl _ _⟩, ?_⟩
  have hw12 := g012.size
  rintro - lv t w30 ⟨k, av, rfl, hk, hrc, hoA, hoL, hdis, hf⟩
  have g1230 : Grow w12 w30 := g19.fr hf fun i hi e => by omega
  have g030 := g012.trans g1230
  have hs30 := hf.size
  have hlen5 : (setL k s).length ≤ k := by
    have := (setL_sub k s).length_le
    rwa [List.length_range] at this
  refine condD (fun hlt2 => ?_) (fun hge2 => ?_)
  · have hkl : k < b.length := by omega
    refine locPin sb g030 rfl hkl rfl fun w36 u g36 s36 hu c0 c1 => ⟨by omega, condD (fun hbit => ?_) fun hbit => ?_⟩
    · have hbit := (bit_one (by omega)).1 hbit
      have eP : partN b (setL (k + 1) s) = partN b (setL k s) ++ [b[k]] := by
        rw [setL_succ, if_pos hbit, partN_app]
        simp [partN, List.getD, hkl]
      have eL : intL (setL (k + 1) s) = intL (setL k s) ++ [(k : Int)] := by
        rw [setL_succ, if_pos hbit, intL_app]
        rfl
      refine ⟨av, (hrc.grow g36).cell (j := 1) rfl, [_, _], rfl, two c0 c1, bs1 el_atom (by omega) (by omega) (cs := #[.int .i64 b[k].1, u]) rfl w36 fun w40 hw40 => ?_⟩
      have g40 := alloc_grow hw40
      have s40 := alloc_size hw40
      have hav : ∀ x, av.ownBlock = some x → w19.heap.size ≤ x ∧ x < w30.heap.size := fun x hx => hoA.lt hx
      have hlv : ∀ x, lv.ownBlock = some x → w19.heap.size ≤ x ∧ x < w30.heap.size := fun x hx => Own.lt hoL hx
      refine pappX1 el_atom (by omega) (cs := [.int .i64 b[k].1, u]) (y := b[k]) (hoA.grow g36) hw40 ⟨rfl, fun y hy => by
        simp at hy
        rcases hy with rfl | rfl
        · rfl
        · exact hu.one.2, fun w2 hfr => ⟨u, rfl, hu.grow ((g030.trans g36).fr hfr fun i hi e => by
          rcases e with e | e
          · omega
          · have := (hav i e.symm).1
            omega)⟩⟩ (by have := g36.size; omega) (by rw [partN, List.length_map]; omega) (by omega) ?_
      intro v2 w43 ho2 hf2 hne2 hblk
      have hs43 := hf2.size
      have hr43 : RecV w43 w12.heap.size [hv, av] := (hrc.grow (g36.trans g40)).fr hf2 fun e => by have := (hav _ e.symm).1; omega
      refine ⟨OwnX.one ho2, ⟨_, hr43.cell (j := 1) rfl⟩, hr43.free 1, fun w44 hw44 w45 hw45 => ?_⟩
      have hr44 := hr43.set hw44
      have f44 := RecV.set_fr hw44
      have hs44 := f44.size
      have g45 := alloc_grow hw45
      have s45 := alloc_size hw45
      have hv2 : ∀ x, v2.ownBlock = some x → w19.heap.size ≤ x ∧ x < w43.heap.size := fun x hx => ho2.lt hx
      have ho44 := OwnX.fr ho2 f44 (fun x hx => by rw [hx]; exact hw12) (fun x hx e => by have := (hv2 x hx).1; omega)
      have ol44 : OwnI w44 w19.heap.size lv (intL (setL k s)) := Own.fr (Own.fr (Own.grow hoL (g36.trans g40)) hf2 fun x hx e => hdis x hx e.symm) f44 fun x hx e => by have := (hlv x hx).1; omega
      refine papp1k el_int hw45 ol44 rfl (by omega) (by rw [intL_len]; omega) (by omega) ?_
      intro l2 w47 hol2 hf47 hkin
      have hd2 : ∀ x, lv.ownBlock = some x → v2.ownBlock ≠ some x := fun x hx e => by
        rcases hblk x e with h1 | h1
        · exact hdis x hx h1.symm
        · have := (hlv x hx).2
          have := g36.size
          omega
      refine ⟨by unfold inR; omega, ⟨k + 1, v2, by omega, by omega, (hr44.grow g45).fr hf47 fun e => by have := (hlv _ e.symm).1; omega, ?_, ?_, ?_, ?_⟩, by dsimp only; omega⟩
      · rw [eP]
        exact OwnX.fr (ho44.grow g45) hf47 (fun x hx => by have := (hlv x hx.symm).1; omega) (fun x hx e => hd2 x e.symm hx)
      · rw [eL]
        unfold OwnI
        rw [List.length_append, List.map_append]
        exact hol2
      · intro x hx
        rcases hkin with ⟨g, cap, e1, e2⟩ | ⟨k2, e1, e2, -⟩
        · refine hd2 x ?_
          rw [e1]
          rw [e2] at hx
          exact hx
        · rw [e1] at hx
          obtain rfl : k2 = x := by simpa using hx
          intro e
          have := (hv2 _ e).2
          omega
      · refine (hf.trans (Fr.of_grow (g36.trans g40))).trans ((hf2.mono fun x _ e => .inr (hav x e.symm).1).trans ((f44.mono fun x _ e => .inl e).trans ((Fr.of_grow g45).trans (hf47.mono fun x _ e => .inr (hlv x e.symm).1))))
    · have hbit : ¬ s.testBit k = true := fun h => hbit ((bit_one (by omega)).2 h)
      have eS : setL (k + 1) s = setL k s := by rw [setL_succ, if_neg hbit, List.append_nil]
      refine ⟨by unfold inR; omega, ⟨k + 1, av, by omega, by omega, hrc.grow g36, ?_, ?_, hdis, hf.trans (Fr.of_grow g36)⟩, by dsimp only; omega⟩
      · rw [eS]; exact hoA.grow g36
      · rw [eS]; exact Own.grow hoL g36
  · have hkl : k = b.length := by omega
    subst hkl
    have hne := setL_pos hs1 hsM
    obtain ⟨L, hL⟩ : ∃ L, L = setL b.length s := ⟨_, rfl⟩
    have sl : SlI w30 lv (intL L) := by rw [hL]; exact Own.slI hoL
    have sp : SlA w30 av (partN b L) := by rw [hL]; exact OwnX.slX hoA
    rw [← hL] at hne
    have hVl : ∀ {w'}, Grow w30 w' → HomV w' lv (some (intL L)) := fun g => ⟨sl.grow g, by
      obtain ⟨a, m, c, rfl, -⟩ := sl.rd (i := 0) (j := 0) (K := fun _ => True) rfl (by rw [intL_len]; exact hne) trivial
      exact ⟨a, m, c, rfl⟩⟩
    have g430 := g12.trans g1230
    have keep : ∀ {w'}, Grow w30 w' → (¬ Good h b L ∨ ∃ m, o = some m ∧ ¬ SLt L m) → CoreN w4 h b s best w' := fun g hn => ⟨by unfold inR; omega, ⟨s + 1, o, by omega, by omega, by omega, best_keep hB (by rw [← hL]; exact hn), hV.gr (g1230.trans g), g430.trans g⟩, by omega⟩
    have new : ∀ {w'}, Grow w30 w' → (o = none ∨ ∃ m, o = some m ∧ SLt L m) → Good h b L → CoreN w4 h b s lv w' := fun g hb hg => ⟨by unfold inR; omega, ⟨s + 1, some L, by omega, by omega, by omega, by rw [hL] at hb hg ⊢; exact best_new hs1 hB hb hg, hVl g, g430.trans g⟩, by omega⟩
    have rest : (o = none ∨ ∃ m, o = some m ∧ SLt L m) → ∃ cs1 : List Value, cs1.length = 2 ∧ (∀ j v, cs1[j]? = some v → w30.cell? (Addr.add ⟨w12.heap.size, 0, none⟩ j) = some v) ∧ Calls Try.prog 39 #[(Value.agg cs1.toArray)] w30 fun e w50 => ∃ t : Bool, e = .returned (.bool t) ∧ condP t
        (∃ cs2 : List Value, cs2.length = 2 ∧ (∀ j v, cs2[j]? = some v → w50.cell? (Addr.add ⟨w.heap.size, 0, none⟩ j) = some v) ∧ ∃ cs3 : List Value, cs3.length = 2 ∧ (∀ j v, cs3[j]? = some v → w50.cell? (Addr.add ⟨w12.heap.size, 0, none⟩ j) = some v) ∧ Calls Try.prog 42 #[(Value.agg cs2.toArray), (Value.agg cs3.toArray)] w50 fun e w55 => ∃ t2 : Value, e = .returned t2 ∧ ∃ b2 : Bool, PBinR Try.prog .neq 22 (.tmp 79) (.const (Value.slice none 0 0)) t2 (Value.slice none 0 0) b2 ∧ condP b2 (CoreN w4 h b s lv w55) (CoreN w4 h b s best w55))
        (CoreN w4 h b s best w50) := fun hbet => by
      refine ⟨[_, _], rfl, hrc.all, (valid_c (sh.grow g030) sp).mono ?_⟩
      rintro e w50 ⟨rfl, g50⟩
      refine ⟨_, rfl, condP_i (fun hok => ?_) fun hno => keep g50 (.inl fun hg => by rw [hg.1] at hno; cases hno)⟩
      have g150 := (g4.trans g430).trans g50
      refine ⟨[_, _], rfl, two (g150.cell p0) (g150.cell p1), [_, _], rfl, (hrc.grow g50).all, (hom_c (sh.grow (g030.trans g50)) (sb.gr (g030.trans g50)) (sh.grow (g030.trans g50)) (sp.gr g50) ok hok rfl).mono ?_⟩
      rintro e w55 ⟨v, o2, rfl, hF, hV2, g55⟩
      refine ⟨v, rfl, _, hV2.ne, condP_i (fun hs => ?_) fun hs => ?_⟩
      · cases o2 with
        | none => cases hs
        | some x => exact new (g50.trans g55) hbet ⟨hok, x, hF.1⟩
      · cases o2 with
        | none => exact keep (g50.trans g55) (.inl fun hg => hg.2.elim fun x hx => hF x hx)
        | some x => cases hs
    have hV30 := hV.gr g1230
    refine ⟨_, hV30.eq, condP_i (fun hn => ?_) fun hs => ?_⟩
    · have : o = none := by cases o <;> simp_all
      exact rest (.inl this)
    · obtain ⟨m, rfl⟩ : ∃ m, o = some m := by
        cases o with
        | none => simp at hs
        | some m => exact ⟨m, rfl⟩
      have sm : SlI w30 best (intL m) := hV30.1
      have l1 := sl.len_le
      refine sl.ln (sm.ln (condD (fun h1 => rest (.inr ⟨m, rfl, .inl (by rw [intL_len, intL_len] at h1; omega)⟩)) fun h1 => sl.ln (sm.ln (condD (fun h2 => ?_) fun h2 => keep (Grow.refl _) (.inr ⟨m, rfl, ?_⟩)))))
      · refine (compare_c sl sm).mono ?_
        rintro e w81 ⟨rfl, rfl⟩
        rw [intL_len, intL_len] at h1 h2
        refine ⟨_, rfl, condD (fun h3 => rest (.inr ⟨m, rfl, .inr ⟨by omega, h3⟩⟩)) fun h3 => keep (Grow.refl _) (.inr ⟨m, rfl, ?_⟩)⟩
        rintro (h4 | ⟨-, h4⟩)
        · omega
        · exact h3 h4
      · rw [intL_len, intL_len] at h1 h2
        rintro (h4 | ⟨h4, -⟩) <;> omega
end Go.Proofs.Ytleiddajojgmmaa

/- Ears and elimination (Graham): what can be eliminated can be eliminated in every way. Of no program. No condition. -/
namespace Go.Proofs.Ytleiddajojgmmaa
set_option linter.unusedVariables false

section
variable (vs : Nat → Nat → Prop)
/-- i is an ear of S: what it shares with any other is in k. -/
def Ear (S : Nat → Prop) (i k : Nat) : Prop := S i ∧ S k ∧ i ≠ k ∧ ∀ j, S j → j ≠ i → ∀ x, vs i x → vs j x → vs k x
/-- S without i. -/
def Wo (S : Nat → Prop) (i : Nat) : Nat → Prop := fun j => S j ∧ j ≠ i
/-- n atoms can be eliminated down to one. -/
inductive Elim : (Nat → Prop) → Nat → Prop
  | one {S : Nat → Prop} {i : Nat} : (∀ j, S j ↔ j = i) → Elim S 1
  | step {S : Nat → Prop} {i k n : Nat} : Ear vs S i k → Elim (Wo S i) n → Elim S (n + 1)
variable {vs}
theorem Elim.congr {S S' : Nat → Prop} {n : Nat} (h : Elim vs S n) (e : ∀ j, S j ↔ S' j) : Elim vs S' n := by
  have : S = S' := funext fun j => propext (e j)
  exact this ▸ h
theorem Wo.comm {S : Nat → Prop} {i j k : Nat} : Wo (Wo S i) j k ↔ Wo (Wo S j) i k := by
  unfold Wo
  exact ⟨fun h => ⟨⟨h.1.1, h.2⟩, h.1.2⟩, fun h => ⟨⟨h.1.1, h.2⟩, h.1.2⟩⟩
/-- Atoms may be renamed, if what any two share stays. -/
theorem Elim.map {f : Nat → Nat} {S : Nat → Prop} {n : Nat} (h : Elim vs S n) : (∀ a b, S a → S b → f a = f b → a = b) → (∀ a b, S a → S b → a ≠ b → ∀ x, (vs a x ∧ vs b x ↔ vs (f a) x ∧ vs (f b) x)) → ∀ {S' : Nat → Prop}, (∀ j', S' j' ↔ ∃ j, S j ∧ f j = j') → Elim vs S' n := by
  induction h with
  | @one S i hi =>
    intro _ _ S' hS'
    refine .one (i := f i) fun j' => ?_
    rw [hS']
    constructor
    · rintro ⟨j, hj, rfl⟩
      rw [(hi j).1 hj]
    · rintro rfl
      exact ⟨i, (hi i).2 rfl, rfl⟩
  | @step S i k n he hr ih =>
    intro hinj hsh S' hS'
    obtain ⟨h1, h2, h3, h4⟩ := he
    refine .step (i := f i) (k := f k) ⟨(hS' _).2 ⟨i, h1, rfl⟩, (hS' _).2 ⟨k, h2, rfl⟩, fun e => h3 (hinj _ _ h1 h2 e), fun j' hj' hne x hx hy => ?_⟩ ?_
    · obtain ⟨j, hj, rfl⟩ := (hS' _).1 hj'
      have hji : j ≠ i := fun e => hne (by rw [e])
      have h5 := (hsh i j h1 hj (Ne.symm hji) x).2 ⟨hx, hy⟩
      exact ((hsh i k h1 h2 h3 x).1 ⟨h5.1, h4 j hj hji x h5.1 h5.2⟩).2
    · refine ih (fun a b ha hb => hinj a b ha.1 hb.1) (fun a b ha hb => hsh a b ha.1 hb.1) fun j' => ?_
      unfold Wo
      rw [hS']
      constructor
      · rintro ⟨⟨j, hj, rfl⟩, hne⟩
        exact ⟨j, ⟨hj, fun e => hne (by rw [e])⟩, rfl⟩
      · rintro ⟨j, ⟨hj, hne⟩, rfl⟩
        exact ⟨⟨j, hj, rfl⟩, fun e => hne (hinj _ _ hj h1 e)⟩
/-- Whichever ear goes first: the others can still be eliminated. -/
theorem Elim.exch : ∀ {n : Nat} {S : Nat → Prop} {i k : Nat}, Elim vs S (n + 2) → Ear vs S i k → Elim vs (Wo S i) (n + 1) := by
  intro n
  induction n with
  | zero =>
    intro S i k h he
    cases h with
    | @step _ e p _ h1 h2 =>
      by_cases hie : i = e
      · exact hie ▸ h2
      · cases h2 with
        | @one _ r hr =>
          have hri : i = r := (hr i).1 ⟨he.1, hie⟩
          refine .one (i := e) fun j => ?_
          constructor
          · rintro ⟨hj, hne⟩
            refine Classical.byContradiction fun hje => hne ?_
            rw [hri]
            exact (hr j).1 ⟨hj, hje⟩
          · rintro rfl
            exact ⟨h1.1, fun e => hie e.symm⟩
        | step h3 h4 => cases h4
  | succ m IH =>
    intro S i k h he
    cases h with
    | @step _ e p _ h1 h2 =>
      by_cases hie : i = e
      · exact hie ▸ h2
      obtain ⟨a1, a2, a3, a4⟩ := he
      obtain ⟨b1, b2, b3, b4⟩ := h1
      by_cases hmut : k = e ∧ p = i
      · obtain ⟨rfl, rfl⟩ := hmut
        refine Elim.map (f := fun a => if a = p then k else a) h2 ?_ ?_ fun j' => ?_
        · intro a b ha hb hab
          by_cases hap : a = p <;> by_cases hbp : b = p
          · rw [hap, hbp]
          · rw [if_pos hap, if_neg hbp] at hab
            exact absurd hab.symm hb.2
          · rw [if_neg hap, if_pos hbp] at hab
            exact absurd hab ha.2
          · rwa [if_neg hap, if_neg hbp] at hab
        · intro a b ha hb hab x
          by_cases hap : a = p <;> by_cases hbp : b = p
          · exact absurd (hap.trans hbp.symm) hab
          · rw [if_pos hap, if_neg hbp, hap]
            exact ⟨fun h => ⟨a4 b hb.1 hbp x h.1 h.2, h.2⟩, fun h => ⟨b4 b hb.1 hb.2 x h.1 h.2, h.2⟩⟩
          · rw [if_neg hap, if_pos hbp, hbp]
            exact ⟨fun h => ⟨h.1, a4 a ha.1 hap x h.2 h.1⟩, fun h => ⟨h.1, b4 a ha.1 ha.2 x h.2 h.1⟩⟩
          · rw [if_neg hap, if_neg hbp]
        · constructor
          · rintro ⟨hj, hne⟩
            by_cases hjk : j' = k
            · exact ⟨p, ⟨a1, fun e => hie e⟩, by rw [if_pos rfl, hjk]⟩
            · exact ⟨j', ⟨hj, hjk⟩, by rw [if_neg hne]⟩
          · rintro ⟨j, ⟨hj, hjk⟩, rfl⟩
            by_cases hjp : j = p
            · rw [if_pos hjp]
              exact ⟨a2, fun e => a3 e.symm⟩
            · rw [if_neg hjp]
              exact ⟨hj, hjp⟩
      · have ear1 : ∃ k', Ear vs (Wo S e) i k' := by
          by_cases hke : k = e
          · have hpi : p ≠ i := fun h => hmut ⟨hke, h⟩
            exact ⟨p, ⟨a1, hie⟩, ⟨b2, fun e => b3 e.symm⟩, fun e => hpi e.symm, fun j hj hne x hx hy => b4 j hj.1 hj.2 x (hke ▸ a4 j hj.1 hne x hx hy) hy⟩
          · exact ⟨k, ⟨a1, hie⟩, ⟨a2, hke⟩, a3, fun j hj hne x hx hy => a4 j hj.1 hne x hx hy⟩
        obtain ⟨k', hk'⟩ := ear1
        have h5 := IH h2 hk'
        have ear2 : ∃ p', Ear vs (Wo S i) e p' := by
          by_cases hpi : p = i
          · have hke : k ≠ e := fun h => hmut ⟨h, hpi⟩
            exact ⟨k, ⟨b1, fun e => hie e.symm⟩, ⟨a2, fun e => a3 e.symm⟩, fun e => hke e.symm, fun j hj hne x hx hy => a4 j hj.1 hj.2 x (hpi ▸ b4 j hj.1 hne x hx hy) hy⟩
          · exact ⟨p, ⟨b1, fun e => hie e.symm⟩, ⟨b2, hpi⟩, b3, fun j hj hne x hx hy => b4 j hj.1 hne x hx hy⟩
        obtain ⟨p', hp'⟩ := ear2
        exact .step hp' (h5.congr fun j => Wo.comm)
/-- What can be eliminated has an ear. -/
theorem Elim.ear {n : Nat} {S : Nat → Prop} (h : Elim vs S (n + 2)) : ∃ i k, Ear vs S i k := by
  cases h with
  | step h1 h2 => exact ⟨_, _, h1⟩
end
end Go.Proofs.Ytleiddajojgmmaa

/- The deletion of ears with sets of variables as numbers: what it finds are ears. Of no program. No condition. -/
namespace Go.Proofs.Ytleiddajojgmmaa
set_option linter.unusedVariables false

/-- What the others that are left have. -/
def othG (left : Nat) (V : List Nat) (i : Nat) : List Nat → Nat := List.foldl (fun acc k => if k ≠ i ∧ left.testBit k = true then acc ||| V.getD k 0 else acc) 0
def othN (n left : Nat) (V : List Nat) (i : Nat) : Nat := othG left V i (List.range n)
theorem oth_go (left : Nat) (V : List Nat) (i x : Nat) : ∀ (l : List Nat) (acc : Nat), (l.foldl (fun acc k => if k ≠ i ∧ left.testBit k = true then acc ||| V.getD k 0 else acc) acc).testBit x = true ↔ acc.testBit x = true ∨ ∃ k ∈ l, k ≠ i ∧ left.testBit k = true ∧ (V.getD k 0).testBit x = true
  | [], acc => by simp
  | a :: r, acc => by
    rw [List.foldl_cons, oth_go left V i x r]
    by_cases h : a ≠ i ∧ left.testBit a = true
    · rw [if_pos h, Nat.testBit_or, Bool.or_eq_true]
      constructor
      · rintro ((h1 | h1) | ⟨k, h1, h2⟩)
        · exact .inl h1
        · exact .inr ⟨a, List.mem_cons_self .., h.1, h.2, h1⟩
        · exact .inr ⟨k, List.mem_cons_of_mem _ h1, h2⟩
      · rintro (h1 | ⟨k, h1, h2⟩)
        · exact .inl (.inl h1)
        · rcases List.mem_cons.1 h1 with rfl | h1
          · exact .inl (.inr h2.2.2)
          · exact .inr ⟨k, h1, h2⟩
    · rw [if_neg h]
      constructor
      · rintro (h1 | ⟨k, h1, h2⟩)
        · exact .inl h1
        · exact .inr ⟨k, List.mem_cons_of_mem _ h1, h2⟩
      · rintro (h1 | ⟨k, h1, h2⟩)
        · exact .inl h1
        · rcases List.mem_cons.1 h1 with rfl | h1
          · exact absurd ⟨h2.1, h2.2.1⟩ h
          · exact .inr ⟨k, h1, h2⟩
theorem oth_bit {n left : Nat} {V : List Nat} {i x : Nat} : (othN n left V i).testBit x = true ↔ ∃ k, k < n ∧ k ≠ i ∧ left.testBit k = true ∧ (V.getD k 0).testBit x = true := by
  unfold othN othG
  rw [oth_go]
  simp only [Nat.zero_testBit, Bool.false_eq_true, false_or, List.mem_range]
def cutN (n left : Nat) (V : List Nat) (i : Nat) : List Nat := V.set i (V.getD i 0 &&& othN n left V i)
def cutK (n left : Nat) (V : List Nat) (k : Nat) : List Nat := (List.range k).foldl (cutN n left) V
theorem cutK_succ (n left : Nat) (V : List Nat) (k : Nat) : cutK n left V (k + 1) = cutN n left (cutK n left V k) k := by
  unfold cutK
  rw [List.range_succ, List.foldl_append]
  rfl
/-- What is kept between the rounds. -/
structure EarI (vs : Nat → Nat → Prop) (n left : Nat) (V : List Nat) : Prop where
  len : V.length = n
  sub : ∀ i, i < n → left.testBit i = true → ∀ x, (V.getD i 0).testBit x = true → vs i x
  has : ∀ i k, i < n → k < n → i ≠ k → left.testBit i = true → left.testBit k = true → ∀ x, vs i x → vs k x → (V.getD i 0).testBit x = true
/-- Nothing but what is shared is kept of atom i. -/
def Tight (vs : Nat → Nat → Prop) (n left : Nat) (V : List Nat) (i : Nat) : Prop := ∀ x, (V.getD i 0).testBit x = true → ∃ k, k < n ∧ k ≠ i ∧ left.testBit k = true ∧ vs k x
section
variable {vs : Nat → Nat → Prop} {n left : Nat} {V : List Nat}
theorem getD_setN {l : List Nat} {k : Nat} (hk : k < l.length) (y i : Nat) : (l.set k y).getD i 0 = if i = k then y else l.getD i 0 := by
  simp only [List.getD, List.getElem?_set]
  by_cases h : k = i
  · subst h
    rw [if_pos rfl, if_pos rfl, if_pos hk]
    rfl
  · rw [if_neg h, if_neg (Ne.symm h)]
theorem cut_get (hl : V.length = n) {i : Nat} (hi : i < n) (k : Nat) : (cutN n left V i).getD k 0 = if k = i then V.getD i 0 &&& othN n left V i else V.getD k 0 := getD_setN (by omega) _ _
theorem EarI.cut (h : EarI vs n left V) {i : Nat} (hi : i < n) : EarI vs n left (cutN n left V i) := by
  refine ⟨by unfold cutN; rw [List.length_set]; exact h.len, fun j hj hlj x hx => ?_, fun j k hj hk hjk hlj hlk x hx hy => ?_⟩
  · rw [cut_get h.len hi] at hx
    split at hx
    · rename_i e
      subst e
      rw [Nat.testBit_and, Bool.and_eq_true] at hx
      exact h.sub j hj hlj x hx.1
    · exact h.sub j hj hlj x hx
  · rw [cut_get h.len hi]
    split
    · rename_i e
      subst e
      rw [Nat.testBit_and, Bool.and_eq_true]
      exact ⟨h.has j k hj hk hjk hlj hlk x hx hy, oth_bit.2 ⟨k, hk, Ne.symm hjk, hlk, h.has k j hk hj (Ne.symm hjk) hlk hlj x hy hx⟩⟩
    · exact h.has j k hj hk hjk hlj hlk x hx hy
theorem EarI.cutK (h : EarI vs n left V) : ∀ {k : Nat}, k ≤ n → EarI vs n left (cutK n left V k) ∧ ∀ i, i < k → Tight vs n left (cutK n left V k) i
  | 0, _ => ⟨h, fun i hi => by omega⟩
  | k + 1, hk => by
    obtain ⟨h1, h2⟩ := EarI.cutK h (k := k) (by omega)
    rw [cutK_succ]
    refine ⟨h1.cut (by omega), fun i hi x hx => ?_⟩
    rw [cut_get h1.len (by omega)] at hx
    split at hx
    · rename_i e
      subst e
      rw [Nat.testBit_and, Bool.and_eq_true] at hx
      obtain ⟨k, a1, a2, a3, a4⟩ := oth_bit.1 hx.2
      exact ⟨k, a1, a2, a3, h1.sub k a1 a3 x a4⟩
    · exact h2 i (by omega) x hx
/-- What is tested is: an ear. -/
theorem ear_iff (h : EarI vs n left V) {i k : Nat} (ht : Tight vs n left V i) (hi : i < n) (hk : k < n) (hli : left.testBit i = true) (hlk : left.testBit k = true) (hik : i ≠ k) :
    (∀ x, (V.getD i 0).testBit x = true → (V.getD k 0).testBit x = true) ↔ Ear vs (fun j => j < n ∧ left.testBit j = true) i k := by
  constructor
  · intro hs
    exact ⟨⟨hi, hli⟩, ⟨hk, hlk⟩, hik, fun j hj hji x hx hy => h.sub k hk hlk x (hs x (h.has i j hi hj.1 (Ne.symm hji) hli hj.2 x hx hy))⟩
  · rintro ⟨-, -, -, he⟩ x hx
    have h1 := h.sub i hi hli x hx
    obtain ⟨j, a1, a2, a3, a4⟩ := ht x hx
    exact h.has k i hk hi (Ne.symm hik) hlk hli x (he j ⟨a1, a3⟩ a2 x h1 a4) h1
theorem EarI.less (h : EarI vs n left V) {l2 : Nat} (hl : ∀ i, l2.testBit i = true → left.testBit i = true) : EarI vs n l2 V :=
  ⟨h.len, fun i hi hli => h.sub i hi (hl i hli), fun i k hi hk hik hli hlk => h.has i k hi hk hik (hl i hli) (hl k hlk)⟩
end
/-! ## The pair that is taken: the last -/
def earT (left : Nat) (V : List Nat) (i k : Nat) : Bool := decide (k ≠ i) && left.testBit i && left.testBit k && decide (V.getD i 0 &&& V.getD k 0 = V.getD i 0)
theorem sub_bits {a b : Nat} : a &&& b = a ↔ ∀ x, a.testBit x = true → b.testBit x = true := by
  constructor
  · intro h x hx
    rw [← h, Nat.testBit_and, Bool.and_eq_true] at hx
    exact hx.2
  · intro h
    refine Nat.eq_of_testBit_eq fun x => ?_
    rw [Nat.testBit_and]
    cases hx : a.testBit x with
    | false => rfl
    | true => rw [h x hx]; rfl
def pickIn (left : Nat) (V : List Nat) (i m : Nat) (acc : Option (Nat × Nat)) : Option (Nat × Nat) := (List.range m).foldl (fun acc k => if earT left V i k = true then some (i, k) else acc) acc
def pickN (n left : Nat) (V : List Nat) (m : Nat) : Option (Nat × Nat) := (List.range m).foldl (fun acc i => pickIn left V i n acc) none
theorem pickIn_succ (left : Nat) (V : List Nat) (i m : Nat) (acc : Option (Nat × Nat)) : pickIn left V i (m + 1) acc = if earT left V i m = true then some (i, m) else pickIn left V i m acc := by
  unfold pickIn
  rw [List.range_succ, List.foldl_append]
  rfl
theorem pickN_succ (n left : Nat) (V : List Nat) (m : Nat) : pickN n left V (m + 1) = pickIn left V m n (pickN n left V m) := by
  unfold pickN
  rw [List.range_succ, List.foldl_append]
  rfl
theorem pick_some {n left : Nat} {V : List Nat} : ∀ {m : Nat} {i k : Nat}, m ≤ n → pickN n left V m = some (i, k) → i < n ∧ k < n ∧ earT left V i k = true := by
  have inn : ∀ {j : Nat}, j < n → ∀ m, m ≤ n → ∀ acc : Option (Nat × Nat), (∀ i k, acc = some (i, k) → i < n ∧ k < n ∧ earT left V i k = true) → ∀ i k, pickIn left V j m acc = some (i, k) → i < n ∧ k < n ∧ earT left V i k = true := fun {j} hj m => by
    induction m with
    | zero => intro _ acc h; exact h
    | succ m ih =>
      intro hm acc h i k he
      rw [pickIn_succ] at he
      split at he
      · rename_i ht
        obtain ⟨rfl, rfl⟩ : j = i ∧ m = k := by simpa using he
        exact ⟨hj, by omega, ht⟩
      · exact ih (by omega) acc h i k he
  intro m
  induction m with
  | zero => intro i k _ h; simp [pickN] at h
  | succ m ih =>
    intro i k hm h
    rw [pickN_succ] at h
    exact inn (by omega) n (Nat.le_refl _) _ (fun i k he => ih (by omega) he) i k h
theorem pick_none {n left : Nat} {V : List Nat} : ∀ {m : Nat}, pickN n left V m = none → ∀ i k, i < m → k < n → earT left V i k = false := by
  have inn : ∀ {j : Nat} (m : Nat) (acc : Option (Nat × Nat)), pickIn left V j m acc = none → acc = none ∧ ∀ k, k < m → earT left V j k = false := fun {j} m => by
    induction m with
    | zero => intro acc h; exact ⟨h, fun k hk => by omega⟩
    | succ m ih =>
      intro acc h
      rw [pickIn_succ] at h
      split at h
      · cases h
      · rename_i ht
        obtain ⟨h1, h2⟩ := ih acc h
        refine ⟨h1, fun k hk => ?_⟩
        rcases Nat.lt_or_ge k m with h3 | h3
        · exact h2 k h3
        · have : k = m := by omega
          subst this
          simpa using ht
  intro m
  induction m with
  | zero => intro _ i k hi; omega
  | succ m ih =>
    intro h i k hi hk
    rw [pickN_succ] at h
    obtain ⟨h1, h2⟩ := inn n _ h
    rcases Nat.lt_or_ge i m with h3 | h3
    · exact ih h1 i k h3 hk
    · have : i = m := by omega
      subst this
      exact h2 k hk
end Go.Proofs.Ytleiddajojgmmaa

/- The deletion of ears as a relation between its states; what is left is one atom exactly if all can be eliminated. Of no program. No condition. -/
namespace Go.Proofs.Ytleiddajojgmmaa
set_option linter.unusedVariables false

/-- A set of bits without one. -/
def clr (left i : Nat) : Nat := VC.nSub left (2 ^ i)
/-- From what is left, with the sets and the parents so far, to what is left at the end. -/
inductive EarsR (n : Nat) : Nat → List Nat → List Int → Nat → List Int → Prop
  | stop {left : Nat} {V : List Nat} {p : List Int} : pickN n left (cutK n left V n) n = none → EarsR n left V p left p
  | go {left : Nat} {V : List Nat} {p : List Int} {i k l2 : Nat} {p2 : List Int} : pickN n left (cutK n left V n) n = some (i, k) → EarsR n (clr left i) (cutK n left V n) (p.set i (k : Int)) l2 p2 → EarsR n left V p l2 p2
/-- The parents do not matter for what is left. -/
theorem EarsR.left {n left : Nat} {V : List Nat} {p : List Int} {l2 : Nat} {p2 : List Int} (h : EarsR n left V p l2 p2) : ∀ (q : List Int), ∃ q2, EarsR n left V q l2 q2 := by
  induction h with
  | stop h1 => exact fun q => ⟨q, .stop h1⟩
  | go h1 _ ih =>
    intro q
    obtain ⟨q2, h2⟩ := ih (q.set _ _)
    exact ⟨q2, .go h1 h2⟩
def InS (n left : Nat) : Nat → Prop := fun j => j < n ∧ left.testBit j = true
def Single (n left : Nat) : Prop := ∃ i, ∀ j, InS n left j ↔ j = i
theorem earT_iff {left : Nat} {V : List Nat} {i k : Nat} : earT left V i k = true ↔ k ≠ i ∧ left.testBit i = true ∧ left.testBit k = true ∧ ∀ x, (V.getD i 0).testBit x = true → (V.getD k 0).testBit x = true := by
  unfold earT
  simp only [Bool.and_eq_true, decide_eq_true_eq, sub_bits, and_assoc]
theorem clr_bit {left i j : Nat} : (clr left i).testBit j = true ↔ left.testBit j = true ∧ j ≠ i := by
  unfold clr
  rw [VC.nSub_bit, Nat.testBit_two_pow]
  simp only [Bool.and_eq_true, Bool.not_eq_true', decide_eq_false_iff_not]
  exact ⟨fun h => ⟨h.1, fun e => h.2 e.symm⟩, fun h => ⟨h.1, fun e => h.2 e.symm⟩⟩
/-- One atom is left exactly if all can be eliminated. -/
theorem ears_single {vs : Nat → Nat → Prop} {n left : Nat} {V : List Nat} {p : List Int} {l2 : Nat} {p2 : List Int} (h : EarsR n left V p l2 p2) : EarI vs n left V → (Single n l2 ↔ ∃ m, Elim vs (InS n left) m) := by
  induction h with
  | @stop left V p h1 =>
    intro hI
    obtain ⟨hI2, hT⟩ := hI.cutK (k := n) (Nat.le_refl n)
    constructor
    · rintro ⟨i, hi⟩
      exact ⟨1, .one hi⟩
    · rintro ⟨m, hm⟩
      cases hm with
      | one hi => exact ⟨_, hi⟩
      | @step _ i k _ he hr =>
        exfalso
        obtain ⟨a1, a2, a3, a4⟩ := he
        have := pick_none h1 i k a1.1 a2.1
        have h2 : earT left (cutK n left V n) i k = true := earT_iff.2 ⟨Ne.symm a3, a1.2, a2.2, (ear_iff hI2 (hT i a1.1) a1.1 a2.1 a1.2 a2.2 a3).2 ⟨a1, a2, a3, a4⟩⟩
        rw [h2] at this
        cases this
  | @go left V p i k l2 p2 h1 hr ih =>
    intro hI
    obtain ⟨hI2, hT⟩ := hI.cutK (k := n) (Nat.le_refl n)
    obtain ⟨hi, hk, ht⟩ := pick_some (Nat.le_refl n) h1
    obtain ⟨b1, b2, b3, b4⟩ := earT_iff.1 ht
    have he : Ear vs (InS n left) i k := (ear_iff hI2 (hT i hi) hi hk b2 b3 (Ne.symm b1)).1 b4
    have eW : ∀ j, Wo (InS n left) i j ↔ InS n (clr left i) j := fun j => by
      unfold Wo InS
      rw [clr_bit, and_assoc]
    rw [ih (hI2.less fun j hj => (clr_bit.1 hj).1)]
    constructor
    · rintro ⟨m, hm⟩
      exact ⟨m + 1, .step he (hm.congr fun j => (eW j).symm)⟩
    · rintro ⟨m, hm⟩
      match m, hm with
      | 0, hm => cases hm
      | 1, hm =>
        exfalso
        cases hm with
        | one hi2 => exact b1 (((hi2 k).1 ⟨hk, b3⟩).trans ((hi2 i).1 ⟨hi, b2⟩).symm)
        | step h3 h4 => cases h4
      | m + 2, hm => exact ⟨m + 1, (hm.exch he).congr eW⟩
end Go.Proofs.Ytleiddajojgmmaa

/- The parents that the deletion of ears leaves: a join tree. Of no program. No condition. -/
namespace Go.Proofs.Ytleiddajojgmmaa
set_option linter.unusedVariables false

def cnt (n left : Nat) : Nat := ((List.range n).filter fun i => left.testBit i).length
theorem cnt_clr {n left i : Nat} (h : InS n left i) : cnt n (clr left i) + 1 = cnt n left := by
  have e : ((List.range n).filter fun j => (clr left i).testBit j) = ((List.range n).filter fun j => left.testBit j).filter fun j => decide (j ≠ i) := by
    rw [List.filter_filter]
    refine List.filter_congr fun j _ => ?_
    rw [Bool.eq_iff_iff, clr_bit]
    simp [and_comm]
  have hm : i ∈ (List.range n).filter fun j => left.testBit j := List.mem_filter.2 ⟨List.mem_range.2 h.1, h.2⟩
  have hn : ((List.range n).filter fun j => left.testBit j).Nodup := List.nodup_range.filter _
  have e2 : (((List.range n).filter fun j => left.testBit j).filter fun j => decide (j ≠ i)) = ((List.range n).filter fun j => left.testBit j).erase i := by
    rw [hn.erase_eq_filter]
    refine List.filter_congr fun j _ => ?_
    simp [bne, Bool.beq_eq_decide_eq]
  unfold cnt
  rw [e, e2, List.length_erase_of_mem hm]
  have := List.length_pos_of_mem hm
  omega
theorem getD_setI {l : List Int} {k : Nat} (hk : k < l.length) (y : Int) (i : Nat) : (l.set k y).getD i 0 = if i = k then y else l.getD i 0 := by
  simp only [List.getD, List.getElem?_set]
  by_cases h : k = i
  · subst h
    rw [if_pos rfl, if_pos rfl, if_pos hk]
    rfl
  · rw [if_neg h, if_neg (Ne.symm h)]
end Go.Proofs.Ytleiddajojgmmaa

/- Join trees as parents. Of no program. No condition. -/
namespace Go.Proofs.Ytleiddajojgmmaa
set_option linter.unusedVariables false

theorem inS_all {n j : Nat} : InS n (2 ^ n - 1) j ↔ j < n := by
  unfold InS
  rw [Nat.testBit_two_pow_sub_one]
  exact ⟨fun h => h.1, fun h => ⟨h, by simpa using h⟩⟩
end Go.Proofs.Ytleiddajojgmmaa

/- Contract: the deletion of ears, by the program. No condition. -/
namespace Go.Proofs.Ytleiddajojgmmaa
open Go Go.RowKit VC
set_option linter.unusedSimpArgs false
set_option linter.unusedVariables false

def ocX1 (x : Int) : Int := IntKind.wrap .u64 ((iAnd .u64 (iShr .u64 x 1) 6148914691236517205) + (iAnd .u64 x 6148914691236517205))
def ocX2 (x : Int) : Int := IntKind.wrap .u64 ((iAnd .u64 (iShr .u64 x 2) 3689348814741910323) + (iAnd .u64 x 3689348814741910323))
def ocX3 (x : Int) : Int := iAnd .u64 (IntKind.wrap .u64 ((iShr .u64 x 4) + x)) 1085102592571150095
def ocX4 (x : Int) : Int := IntKind.wrap .u64 (x + (iShr .u64 x 8))
def ocX5 (x : Int) : Int := IntKind.wrap .u64 (x + (iShr .u64 x 16))
def ocX6 (x : Int) : Int := IntKind.wrap .u64 (x + (iShr .u64 x 32))
def ocXX (x : Int) : Int := iAnd .i64 (IntKind.wrap .i64 (ocX6 (ocX5 (ocX4 (ocX3 (ocX2 (ocX1 x))))))) 127
theorem ocXAll : ∀ s, s < 64 → (ocXX ((s : Nat) : Int) == ((pc s : Nat) : Int)) = true := by decide +kernel
theorem ones64S_c {s : Nat} (h : s < 64) {w : World} : Calls Try.prog 113 #[.int .u64 (s : Int)] w (Ret w (.int .i64 (pc s : Int))) := by
  refine f113_calls _ ?_
  have hk := ocXAll s h
  refine ⟨by omega, by omega, by omega, by omega, by omega, by omega, ?_, Grow.refl w⟩
  have : ocXX (s : Int) = ((pc s : Nat) : Int) := by simpa using hk
  rw [← this]
  rfl
theorem onesS_c {s : Nat} (h : s < 64) {w : World} : Calls Try.prog 83 #[.int .u64 (s : Int)] w (Ret w (.int .i64 (pc s : Int))) := by
  refine f83_calls _ ?_
  refine (ones64S_c h).mono ?_
  rintro e w' ⟨rfl, hg⟩
  exact ⟨_, rfl, rfl, hg⟩
theorem ownSelf {w : World} {B : Nat} {e : TypeId} {sz g n c : Nat} {cs : List Value} (h : Own w B e sz (.slice (some ⟨g, 0, none⟩) n c) n cs) : Own w g e sz (.slice (some ⟨g, 0, none⟩) n c) n cs := by
  refine ⟨h.1, .inr ?_⟩
  rcases h.2 with ⟨h1, _⟩ | ⟨g', cap', cur, he, hb, rest⟩
  · cases h1
  · simp only [Value.slice.injEq, Option.some.injEq, Addr.mk.injEq, and_true, true_and] at he
    obtain ⟨rfl, rfl⟩ := he
    exact ⟨_, _, cur, rfl, Nat.le_refl _, rest⟩
def intN (V : List Nat) : List Int := V.map fun (x : Nat) => (x : Int)
theorem intN_len (V : List Nat) : (intN V).length = V.length := by simp [intN]
/-- An array of ints in the block A. -/
abbrev Arr (w : World) (A n : Nat) (xs : List Int) : Prop := Own w A 3 1 (.slice (some ⟨A, 0, none⟩) n n) n (xs.map VC.encI)
theorem Arr.put {w w' : World} {A n i : Nat} {xs : List Int} {z : Int} (h : Arr w A n xs) (hi : i < n) (hw : w' = w.setCell ⟨A, i, none⟩ (.int .i64 z)) : Arr w' A n (xs.set i z) := by
  have h9 := Own.set h hi hw
  have e : (xs.map VC.encI).set i (Value.int .i64 z) = (xs.set i z).map VC.encI := by
    rw [show Value.int .i64 z = VC.encI z from rfl, ← List.map_set]
  rwa [e] at h9
theorem Arr.sl {w : World} {A n : Nat} {xs : List Int} (h : Arr w A n xs) (hl : xs.length = n) : SlI w (.slice (some ⟨A, 0, none⟩) n n) xs := Own.slI h
def encP : Option (Nat × Nat) → Int × Int
  | none => (-1, -1)
  | some (i, k) => ((i : Int), (k : Int))
theorem intN_get {V : List Nat} {i : Nat} (hi : i < V.length) : (intN V)[i]'(by rw [intN_len]; exact hi) = ((V.getD i 0 : Nat) : Int) := by
  simp [intN, List.getD, hi]
theorem intN_set (V : List Nat) (i z : Nat) : (intN V).set i (z : Int) = intN (V.set i z) := by
  simp [intN, List.map_set]
theorem othG_lt {left : Nat} {V : List Nat} {i : Nat} (hV : ∀ k, V.getD k 0 < 256) : ∀ j, othG left V i (List.range j) < 256 := fun j => by
  refine Nat.lt_pow_two_of_testBit (n := 8) _ fun x hx => ?_
  cases h : (othG left V i (List.range j)).testBit x with
  | false => rfl
  | true =>
    unfold othG at h
    rw [oth_go] at h
    rcases h with h | ⟨k, -, -, -, h⟩
    · simp at h
    · rw [Nat.testBit_lt_two_pow (Nat.lt_of_lt_of_le (hV k) (Nat.pow_le_pow_right (by omega) hx : 2 ^ 8 ≤ 2 ^ x))] at h
      cases h
theorem othG_succ (left : Nat) (V : List Nat) (i j : Nat) : othG left V i (List.range (j + 1)) = if j ≠ i ∧ left.testBit j = true then othG left V i (List.range j) ||| V.getD j 0 else othG left V i (List.range j) := by
  unfold othG
  rw [List.range_succ, List.foldl_append]
  rfl
theorem cutK_lt {n left : Nat} {V : List Nat} (hl : V.length = n) (hV : ∀ k, V.getD k 0 < 256) : ∀ k, k ≤ n → (cutK n left V k).length = n ∧ ∀ j, (cutK n left V k).getD j 0 < 256
  | 0, _ => ⟨hl, hV⟩
  | k + 1, hk => by
    obtain ⟨h1, h2⟩ := cutK_lt (left := left) hl hV k (by omega)
    rw [cutK_succ]
    refine ⟨by unfold cutN; rw [List.length_set]; exact h1, fun j => ?_⟩
    rw [cut_get h1 (by omega)]
    split
    · exact Nat.lt_of_le_of_lt Nat.and_le_left (h2 k)
    · exact h2 j
/-- Between the rounds. -/
structure EarW (w20 : World) (A G n : Nat) (V0 : List Nat) (w' : World) (left : Int) (l : Nat) (V : List Nat) (p : List Int) : Prop where
  le : left = (l : Int)
  arr : Arr w' A n (intN V)
  par : Arr w' G n p
  fr : Fr (fun i => i = A ∨ i = G) w20 w'
  ll : l < 2 ^ n
  lV : V.length = n
  bV : ∀ k, V.getD k 0 < 256
  lp : p.length = n
  run : ∀ l2 p2, EarsR n l V p l2 p2 → EarsR n (2 ^ n - 1) V0 (List.replicate n (-1)) l2 p2
/-- The rounds of the deletion. -/
theorem clr_eq {l i : Nat} (hi : i < 63) (hl : l < 9223372036854775808) : iAndNot .i64 (l : Int) (iShl .i64 1 (i : Int)) = ((clr l i : Nat) : Int) := by
  have : 2 ^ i < 2 ^ 63 := Nat.pow_lt_pow_right (by omega) hi
  rw [iShl_one hi, iAndNot_nat hl (by omega)]
  rfl
theorem andNot_zero {a b : Nat} (ha : a < 256) (hb : b < 256) : (iAndNot .i64 (a : Int) (b : Int) = 0) ↔ a &&& b = a := by
  rw [iAndNot_nat (by omega) (by omega)]
  constructor
  · intro h
    have h : nSub a b = 0 := by omega
    refine sub_bits.2 fun x hx => ?_
    have h2 := nSub_bit a b x
    rw [h, Nat.zero_testBit, hx] at h2
    simpa using h2.symm
  · intro h
    have : nSub a b = 0 := Nat.eq_of_testBit_eq fun x => by
      rw [nSub_bit, Nat.zero_testBit]
      cases hx : a.testBit x with
      | false => rfl
      | true => rw [sub_bits.1 h x hx]; rfl
    rw [this]
    rfl
end Go.Proofs.Ytleiddajojgmmaa

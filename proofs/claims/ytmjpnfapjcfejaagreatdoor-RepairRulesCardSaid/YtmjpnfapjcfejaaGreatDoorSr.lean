/- Contracts: terms and atoms of terms, by the program: a question in them, and back; variables replaced; numbers that an atom and a fact give. No condition. -/
import Derived.Test.YtmjpnfapjcfejaaGreatDoorSl
import Derived.Test.YtmjpnfapjcfejaaGreatDoorSc
import Derived.Test.YtmjpnfapjcfejaaGreatDoorRl
import Derived.Test.YtmjpnfapjcfejaaGreatDoorTa
import Derived.Test.YtmjpnfapjcfejaaGreatDoorSh
namespace Go.Proofs.YtmjpnfapjcfejaaGreatDoor
open Go Go.RowKit VC
set_option linter.unusedSimpArgs false
set_option linter.unusedVariables false

/-! ## A slice that is the second field of a record variable, and grows -/
theorem fieldPush {α : Type} {f : α → List Value} {P : Program} {t ty e : TypeId} {sz bytes : Nat} {z : Value} (hT : ElT P t e sz bytes z) (hsz : 0 < sz) (hf : ∀ x, (f x).length = sz) (h1 : ∀ x, ∀ u ∈ f x, u.oneCell' = true) {w w1 : World} {B b : Nat} {r av : Value} {x : α} {xs : List α}
    (hw : w1 = w.alloc (.cells (f x).toArray e)) (hr : RecV w b [r, av]) (ho : Own w B e sz av xs.length (xs.flatMap f)) (hb : b < B) (hB : B ≤ w.heap.size) (hlen : (xs.length + 1) * bytes ≤ 140737488355328) (hby : 0 < bytes) {K : World → Prop}
    (hk : ∀ v w', RecV w' b [r, v] → Own w' B e sz v (xs ++ [x]).length ((xs ++ [x]).flatMap f) → Fr (fun i => i = b ∨ B ≤ i) w w' → K w') :
    PApp P t ty av (.slice (some ⟨w.heap.size, 0, none⟩) 1 1) w1 fun t w69 => oneV t ∧ (∃ old, w69.cell? (Addr.add ⟨b, 0, none⟩ 1) = some old) ∧ w69.frozen? (Addr.add ⟨b, 0, none⟩ 1) = false ∧ ∀ w70, w70 = w69.setCell (Addr.add ⟨b, 0, none⟩ 1) t → K w70 := by
  have gl := alloc_grow hw
  refine pappR hT hsz hf h1 hw ho hB hlen hby fun v2 w69 ho2 hf2 => ?_
  have hne : ∀ k, some k = av.ownBlock → B ≤ k := fun k e => (Own.lt ho e.symm).1
  have hr2 : RecV w69 b [r, av] := (hr.grow gl).fr hf2 fun e => by have := hne _ e; omega
  refine ⟨Own.one ho2, ⟨_, hr2.cell (j := 1) rfl⟩, hr2.free 1, fun w70 hw70 => hk v2 w70 (hr2.set hw70) (Own.fr ho2 (RecV.set_fr hw70) fun k hk e => by have := (Own.lt ho2 hk).1; omega) ?_⟩
  exact (Fr.of_grow gl).trans ((hf2.mono fun k _ e => .inr (hne k e)).trans ((RecV.set_fr hw70).mono fun k _ e => .inl e))
def intF (x : Int) : List Value := [.int .i64 x]
theorem intF_len (x : Int) : (intF x).length = 1 := rfl
theorem intF_one (x : Int) : ∀ u ∈ intF x, u.oneCell' = true := fun u hu => by
  have : u = .int .i64 x := by simpa [intF] using hu
  subst this
  rfl
theorem intF_map (xs : List Int) : xs.flatMap intF = xs.map encI := by
  induction xs with
  | nil => rfl
  | cons x r ih => rw [List.flatMap_cons, ih]; rfl
/-! ## Terms -/
theorem el_tm : ElT Tryz.prog 140 148 2 16 (.agg #[.int .i64 0, .int .i64 0]) := ⟨by kernel_rfl, ⟨Tryz.t148, by kernel_rfl, by kernel_rfl, by kernel_rfl, by kernel_rfl⟩, rfl⟩
theorem el_ta : ElT Tryz.prog 105 142 2 32 (.agg #[.int .i64 0, .slice none 0 0]) := ⟨by kernel_rfl, ⟨Tryz.t142, by kernel_rfl, by kernel_rfl, by kernel_rfl, by kernel_rfl⟩, rfl⟩
abbrev SlP (w : World) (v : Value) (l : List (Int × Int)) : Prop := SlR spF w v l
abbrev OwnP (w : World) (B : Nat) (v : Value) (l : List (Int × Int)) : Prop := Own w B 148 2 v l.length (l.flatMap spF)
def repT (w : World) (cs : List Value) (a : TAtm) : Prop := ∃ v, cs = [.int .i64 a.1, v] ∧ SlP w v a.2
theorem repT_mono : Mono repT := fun w w' cs x hg ⟨v, h1, h2⟩ => ⟨v, h1, SlR.grow h2 hg⟩
abbrev SlTA (w : World) (v : Value) (l : List TAtm) : Prop := SlX 2 repT w v l
theorem SlTA.gr {w w' : World} {v : Value} {l : List TAtm} (h : SlTA w v l) (hf : Grow w w') : SlTA w' v l := h.grow repT_mono hf
abbrev OwnTA (w : World) (B : Nat) (v : Value) (l : List TAtm) : Prop := OwnX (fun b => b < B) 2 repT w B 142 v l
theorem elx_tm {T : Nat → Prop} {w : World} {B : Nat} {r : Int} {v out : Value} {xs : List (Int × Int)} (ho : OwnP w B v xs) (hT : ∀ b, T b → b < B) (hout : ∀ b, out.ownBlock = some b → b < B) : ElX T 2 repT out w ([.int .i64 r, v], (r, xs)) := by
  refine ⟨rfl, ?_, fun w' hf => ⟨v, rfl, Own.slR (Own.fr ho hf fun k hk e => ?_)⟩⟩
  · intro u hu
    simp at hu
    rcases hu with rfl | rfl
    · rfl
    · exact (Own.one ho).2
  · have h2 := (Own.lt ho hk).1
    rcases e with e | e
    · have := hT k e; omega
    · have h1 := hout k e.symm
      omega
/-- An atom of terms, copied into a variable. -/
theorem locT {P : Program} {w0 w : World} {v : Value} {l : List TAtm} (h : SlTA w0 v l) (g : Grow w0 w) {i : Nat} {j : Int} (hj : j = (i : Int)) (hi : i < l.length) {zs : Array Value} (hz : zs.size = 2) {t : TypeId} {K : World → Prop}
    (hk : ∀ w2 u, Grow w w2 → w.heap.size < w2.heap.size → SlP w0 u l[i].2 → RecV w2 w.heap.size [.int .i64 l[i].1, u] → K w2) :
    ∃ (a : Addr) (m c : Nat), v = .slice (some a) m c ∧ ((0 : Int) ≤ j ∧ j < (m : Int)) ∧ ∃ cs : List Value, cs.length = 2 ∧ (∀ t u, cs[t]? = some u → w.cell? (Addr.add (a.add (Int.toNat j * 2)) t) = some u) ∧
      ∀ w1, w1 = w.alloc (.cells zs t) → ∃ cs' : Array Value, (Value.agg cs.toArray) = Value.agg cs' ∧ cs'.size = 2 ∧ ∃ w2 : World, (storeCells ⟨w.heap.size, 0, none⟩ cs'.toList).run P w1 = .ok () w2 ∧ K w2 := by
  refine SlX.rd (pinR h g) hj hi fun cs hl hr w1 hw1 => ?_
  obtain ⟨u, rfl, hu⟩ := hr
  have := RecV.init (P := P) (cs := [.int .i64 l[i].1, u]) hw1 (by rw [hz]; rfl) (by
    intro y hy
    simp at hy
    rcases hy with rfl | rfl
    · rfl
    · exact (SlR.one hu).2) (K := K) fun w2 hg hs hc => hk w2 u hg hs hu hc
  rw [hz] at this
  exact this
/-- An element of some cells, copied into a variable. -/
theorem locF {α : Type} {f : α → List Value} {k : Nat} (hf : ∀ x, (f x).length = k) (h1 : ∀ x, ∀ u ∈ f x, u.oneCell' = true) {P : Program} {w0 w : World} {v : Value} {l : List α} (h : SlR f w0 v l) (g : Grow w0 w) {i : Nat} {j : Int} (hj : j = (i : Int)) (hi : i < l.length) {zs : Array Value} (hz : zs.size = k) {t : TypeId} {K : World → Prop}
    (hk : ∀ w2, Grow w w2 → w.heap.size < w2.heap.size → RecV w2 w.heap.size (f l[i]) → K w2) :
    ∃ (a : Addr) (m c : Nat), v = .slice (some a) m c ∧ ((0 : Int) ≤ j ∧ j < (m : Int)) ∧ ∃ cs : List Value, cs.length = k ∧ (∀ t u, cs[t]? = some u → w.cell? (Addr.add (a.add (Int.toNat j * k)) t) = some u) ∧
      ∀ w1, w1 = w.alloc (.cells zs t) → ∃ cs' : Array Value, (Value.agg cs.toArray) = Value.agg cs' ∧ cs'.size = k ∧ ∃ w2 : World, (storeCells ⟨w.heap.size, 0, none⟩ cs'.toList).run P w1 = .ok () w2 ∧ K w2 := by
  refine SlR.rd (SlR.grow h g) hf hj hi ?_
  intro w1 hw1
  have := RecV.init (P := P) (cs := f l[i]) hw1 (by rw [hz, hf]) (h1 _) (K := K) fun w2 hg hs hc => hk w2 hg hs hc
  rw [hz] at this
  exact this
/-- A term, copied into a variable. -/
theorem locP {P : Program} {w0 w : World} {v : Value} {l : List (Int × Int)} (h : SlP w0 v l) (g : Grow w0 w) {i : Nat} {j : Int} (hj : j = (i : Int)) (hi : i < l.length) {zs : Array Value} (hz : zs.size = 2) {t : TypeId} {K : World → Prop}
    (hk : ∀ w2, Grow w w2 → w.heap.size < w2.heap.size → RecV w2 w.heap.size (spF l[i]) → K w2) :
    ∃ (a : Addr) (m c : Nat), v = .slice (some a) m c ∧ ((0 : Int) ≤ j ∧ j < (m : Int)) ∧ ∃ cs : List Value, cs.length = 2 ∧ (∀ t u, cs[t]? = some u → w.cell? (Addr.add (a.add (Int.toNat j * 2)) t) = some u) ∧
      ∀ w1, w1 = w.alloc (.cells zs t) → ∃ cs' : Array Value, (Value.agg cs.toArray) = Value.agg cs' ∧ cs'.size = 2 ∧ ∃ w2 : World, (storeCells ⟨w.heap.size, 0, none⟩ cs'.toList).run P w1 = .ok () w2 ∧ K w2 := locF spF_len spF_one h g hj hi hz hk
theorem map_take_snoc {α β : Type} (f : α → β) {l : List α} {k : Nat} (hk : k < l.length) : (l.take (k + 1)).map f = (l.take k).map f ++ [f l[k]] := by
  rw [List.take_succ_eq_append_getElem hk, List.map_append]
  rfl
theorem rec_nil (r : Int) : ∀ y ∈ [Value.int .i64 r, .slice none 0 0], y.oneCell' = true := by
  intro y hy
  simp at hy
  rcases hy with rfl | rfl <;> rfl
/-! ## A question in terms -/
theorem body_c {w : World} {hv bv : Value} {b : List Atm} (sb : SlA w bv b) (oA : ∀ a ∈ b, okA a = true) (h5 : b.length ≤ 5) :
    Calls Tryz.prog 72 #[.agg #[hv, bv]] w fun e w' => ∃ v, e = .returned v ∧ SlTA w' v (b.map (tsub m0)) ∧ Grow w w' := by
  refine f72_calls _ ⟨_, rfl, fun w1 hw1 => ?_⟩
  have g1 := alloc_grow hw1
  refine ⟨_, boxc hw1 1 bv rfl, SlX.ln (sb.gr g1) ?_⟩
  refine ⟨fun out t w' => ∃ k : Nat, t = k ∧ k ≤ b.length ∧ OwnTA w' w1.heap.size out ((b.take k).map (tsub m0)) ∧ Grow w1 w', fun _ t _ => b.length - t.toNat, ⟨0, rfl, by omega, OwnX.nil _ _ _, Grow.refl _⟩, ?_⟩
  rintro - out t w12 ⟨k, rfl, hk, hout, g12⟩
  have g012 := g1.trans g12
  refine condD (fun hlt => ?_) fun hge => ?_
  · have hkl : k < b.length := by omega
    have oAk := okA_iff.1 (oA _ (List.getElem_mem hkl))
    refine locR sb g012 rfl hkl rfl fun w18 u g18 s18 hu hc => ⟨_, hc.cell (j := 0) rfl, fun w21 hw21 => RecV.init (cs := [.int .i64 b[k].1, .slice none 0 0]) hw21 rfl (rec_nil _) fun w22 g22 s22 hC => ?_⟩
    refine ⟨u, (hc.grow g22).cell (j := 1) rfl, hu.ln ?_⟩
    refine ⟨fun t w' => ∃ (p : Nat) (av : Value), t = p ∧ p ≤ b[k].2.length ∧ RecV w' w18.heap.size [.int .i64 b[k].1, av] ∧ OwnP w' w22.heap.size av ((b[k].2.take p).map (tmM m0)) ∧ Fr (fun i => i = w18.heap.size ∨ w22.heap.size ≤ i) w22 w', fun t _ => b[k].2.length - t.toNat,
      ⟨0, _, rfl, by omega, hC, Own.nil _ _ _ _, Fr.refl _ _⟩, ?_⟩
    rintro - t w32 ⟨p, av, rfl, hp, hrc, hown, hf⟩
    have g1832 : Grow w18 w32 := g22.fr hf fun i hi e => by omega
    have g032 := (g012.trans g18).trans g1832
    refine condD (fun hlt2 => ?_) fun hge2 => ?_
    · have hpl : p < b[k].2.length := by omega
      have hx := oAk.2.2.2.2 _ (List.getElem_mem hpl)
      have hl3 := oAk.2.2.2.1
      have next : ∀ (y : Int × Int) {wl : World}, y = tmM m0 b[k].2[p] → wl = w32.alloc (.cells (spF y).toArray 148) → PApp Tryz.prog 140 140 av (.slice (some ⟨w32.heap.size, 0, none⟩) 1 1) wl fun t w69 => oneV t ∧ (∃ old, w69.cell? (Addr.add ⟨w18.heap.size, 0, none⟩ 1) = some old) ∧ w69.frozen? (Addr.add ⟨w18.heap.size, 0, none⟩ 1) = false ∧ ∀ w70, w70 = w69.setCell (Addr.add ⟨w18.heap.size, 0, none⟩ 1) t →
          inR ((p : Int) + 1) ∧ ((∃ (p' : Nat) (av : Value), (p : Int) + 1 = p' ∧ p' ≤ b[k].2.length ∧ RecV w70 w18.heap.size [.int .i64 b[k].1, av] ∧ OwnP w70 w22.heap.size av ((b[k].2.take p').map (tmM m0)) ∧ Fr (fun i => i = w18.heap.size ∨ w22.heap.size ≤ i) w22 w70) ∧ b[k].2.length - Int.toNat ((p : Int) + 1) < b[k].2.length - Int.toNat (p : Int)) := fun y wl hy hwl => by
        refine fieldPush el_tm (by omega) spF_len spF_one hwl hrc hown s22 hf.size (by simp; omega) (by omega) fun v w' hr2 ho2 hf2 => ⟨by unfold inR; omega, ⟨p + 1, v, by omega, by omega, hr2, ?_, hf.trans hf2⟩, by first | omega | (dsimp only; omega)⟩
        rw [map_take_snoc _ hpl, ← hy]
        exact ho2
      refine (hu.grow g032).rd rfl hpl (condD (fun h0 => ⟨av, hrc.cell (j := 1) rfl, by unfold inR; omega, bs1 el_tm (by omega) (by omega) (cs := #[.int .i64 0, .int .i64 (0 - b[k].2[p])]) rfl w32 fun w38 hw38 => next (0, 0 - b[k].2[p]) ?_ hw38⟩) fun h0 => ⟨av, hrc.cell (j := 1) rfl, bs1 el_tm (by omega) (by omega) (cs := #[.int .i64 b[k].2[p], .int .i64 0]) rfl w32 fun w38 hw38 => next (b[k].2[p], 0) ?_ hw38⟩)
      · rw [tmM_m0, if_pos h0, Int.zero_sub]
      · rw [tmM_m0, if_neg h0]
    · have hpl : p = b[k].2.length := by omega
      rw [hpl, List.take_length] at hown
      have g1232 := g18.trans g1832
      have s12 := g12.size
      have hbl2 : ∀ b, out.ownBlock = some b → b < w22.heap.size := fun b hb => by
        have := (hout.lt hb).2
        omega
      refine ⟨[_, _], rfl, hrc.all, bs1 el_ta (by omega) (by omega) (cs := #[.int .i64 b[k].1, av]) rfl w32 fun w' hw' => ?_⟩
      refine pappX1 el_ta (by omega) (cs := [.int .i64 b[k].1, av]) (y := tsub m0 b[k]) (hout.grow g1232) hw' (elx_tm hown (fun b hb => by have hb : b < w1.heap.size := hb; omega) hbl2) (by have := g1232.size; omega) (by simp; omega) (by omega) ?_
      intro v2 w2 ho2 hf2 _ _
      refine ⟨by unfold inR; omega, ⟨k + 1, by omega, by omega, by rw [map_take_snoc _ hkl]; exact ho2, ?_⟩, by first | omega | (dsimp only; omega)⟩
      exact ((g12.trans g1232).trans (alloc_grow hw')).fr hf2 fun i hi e => by
        have := (hout.lt e.symm).1
        omega
  · have hkl : k = b.length := by omega
    rw [hkl, List.take_length] at hout
    exact ⟨_, rfl, hout.slX, g012⟩
/-! ## Variables replaced -/
theorem getM_tm {kv : List (Int × Value)} {m m' : List Int} (h : NewM kv m m') {x : Int} {v : Value} (h2 : (tmM m x).2 = 0) (hp : PosM m) (hv : getM kv (tmM m x).1 = some v) : v = .int .i64 (mg m' x.toNat) := by
  unfold tmM at h2 hv
  by_cases h1 : x < 0
  · rw [if_pos h1] at h2
    dsimp only at h2
    omega
  · rw [if_neg h1] at h2 hv
    by_cases h3 : mg m x.toNat ≠ 0
    · rw [if_pos h3] at h2
      exact absurd h2 h3
    · rw [if_neg h3] at hv
      dsimp only at hv
      have ex : x = ((x.toNat : Nat) : Int) := by omega
      rw [ex, h x.toNat] at hv
      split at hv
      · exact (Option.some.inj hv).symm
      · cases hv
/-- What the map of a term's variable holds is a number. -/
theorem getM_int {kv : List (Int × Value)} {m m' : List Int} (h : NewM kv m m') (x : Nat) : ∃ n : Int, (getM kv (x : Int)).getD (.int .i64 0) = .int .i64 n := by
  rw [h x]
  split
  · exact ⟨_, rfl⟩
  · exact ⟨0, rfl⟩
theorem tm_fst {m : List Int} (x : Int) : 0 ≤ (tmM m x).1 := by
  unfold tmM
  split
  · exact Int.le_refl _
  · split
    · exact Int.le_refl _
    · dsimp only; omega
theorem with_c {w : World} {lv : Value} {mb : Nat} {atoms : List Atm} {m m' : List Int} {kv : List (Int × Value)} (sl : SlTA w lv (atoms.map (tsub m))) (hm : MapI w mb kv) (hN : NewM kv m m') (hk : ∀ x, mg m x ≠ 0 → mg m' x = mg m x) (hp : PosM m) (h3 : ∀ a ∈ atoms, a.2.length ≤ 3) (h5 : atoms.length ≤ 5) :
    Calls Tryz.prog 106 #[lv, .map (some mb)] w fun e w' => ∃ v, e = .returned v ∧ SlTA w' v (atoms.map (tsub m')) ∧ Grow w w' := by
  obtain ⟨um, uk, ui, uz⟩ := el_mapI
  refine f106_calls _ _ (SlX.ln sl ?_)
  rw [List.length_map]
  refine ⟨fun out t w' => ∃ k : Nat, t = k ∧ k ≤ atoms.length ∧ OwnTA w' w.heap.size out ((atoms.take k).map (tsub m')) ∧ Grow w w', fun _ t _ => atoms.length - t.toNat, ⟨0, rfl, by omega, OwnX.nil _ _ _, Grow.refl _⟩, ?_⟩
  rintro - out t w9 ⟨k, rfl, hkk, hout, g9⟩
  refine condD (fun hlt => ?_) fun hge => ?_
  · have hkl : k < atoms.length := by omega
    have hkl' : k < (atoms.map (tsub m)).length := by rw [List.length_map]; exact hkl
    have ek : (atoms.map (tsub m))[k] = tsub m atoms[k] := List.getElem_map ..
    have hl3 := h3 _ (List.getElem_mem hkl)
    refine locT sl g9 rfl hkl' rfl fun w15 u g15 s15 hu hc => ?_
    rw [ek] at hu hc
    have hu : SlP w u (atoms[k].2.map (tmM m)) := hu
    have hc : RecV w15 w9.heap.size [.int .i64 atoms[k].1, u] := hc
    refine ⟨_, hc.cell (j := 0) rfl, fun w18 hw18 => RecV.init (cs := [.int .i64 atoms[k].1, .slice none 0 0]) hw18 rfl (rec_nil _) fun w19 g19 s19 hC => ?_⟩
    refine ⟨u, (hc.grow g19).cell (j := 1) rfl, SlR.ln hu ?_⟩
    rw [List.length_map]
    refine ⟨fun t w' => ∃ (p : Nat) (av : Value), t = p ∧ p ≤ atoms[k].2.length ∧ RecV w' w15.heap.size [.int .i64 atoms[k].1, av] ∧ OwnP w' w19.heap.size av ((atoms[k].2.take p).map (tmM m')) ∧ Fr (fun i => i = w15.heap.size ∨ w19.heap.size ≤ i) w19 w', fun t _ => atoms[k].2.length - t.toNat,
      ⟨0, _, rfl, by omega, hC, Own.nil _ _ _ _, Fr.refl _ _⟩, ?_⟩
    rintro - t w29 ⟨p, av, rfl, hpp, hrc, hown, hf⟩
    have g1529 : Grow w15 w29 := g19.fr hf fun i hi e => by omega
    have g029 := (g9.trans g15).trans g1529
    refine condD (fun hlt2 => ?_) fun hge2 => ?_
    · have hpl : p < atoms[k].2.length := by omega
      have hpl' : p < (atoms[k].2.map (tmM m)).length := by rw [List.length_map]; exact hpl
      have ep : (atoms[k].2.map (tmM m))[p] = tmM m atoms[k].2[p] := List.getElem_map ..
      refine locP hu g029 rfl hpl' rfl fun w35 g35 s35 ht => ?_
      rw [ep] at ht
      have htm := tm_new hN hk atoms[k].2[p]
      obtain ⟨y, ey⟩ : ∃ y, y = tmM m atoms[k].2[p] := ⟨_, rfl⟩
      rw [← ey] at ht htm
      have ht : RecV w35 w29.heap.size [.int .i64 y.1, .int .i64 y.2] := ht
      have s29 := hf.size
      have next : ∀ (z : Int × Int) {wd wl : World}, z = tmM m' atoms[k].2[p] → Fr (fun i => i = w29.heap.size) w35 wd → wl = wd.alloc (.cells (spF z).toArray 148) → PApp Tryz.prog 140 140 av (.slice (some ⟨wd.heap.size, 0, none⟩) 1 1) wl fun t w69 => oneV t ∧ (∃ old, w69.cell? (Addr.add ⟨w15.heap.size, 0, none⟩ 1) = some old) ∧ w69.frozen? (Addr.add ⟨w15.heap.size, 0, none⟩ 1) = false ∧ ∀ w70, w70 = w69.setCell (Addr.add ⟨w15.heap.size, 0, none⟩ 1) t →
          inR ((p : Int) + 1) ∧ ((∃ (p' : Nat) (av : Value), (p : Int) + 1 = p' ∧ p' ≤ atoms[k].2.length ∧ RecV w70 w15.heap.size [.int .i64 atoms[k].1, av] ∧ OwnP w70 w19.heap.size av ((atoms[k].2.take p').map (tmM m')) ∧ Fr (fun i => i = w15.heap.size ∨ w19.heap.size ≤ i) w19 w70) ∧ atoms[k].2.length - Int.toNat ((p : Int) + 1) < atoms[k].2.length - Int.toNat (p : Int)) := fun z wd wl hz hfd hwl => by
        have sd := hfd.size
        have hod : OwnP wd w19.heap.size av ((atoms[k].2.take p).map (tmM m')) := Own.fr (Own.grow hown g35) hfd fun j hj e => by have := (Own.lt hown hj).2; omega
        have hrd : RecV wd w15.heap.size [.int .i64 atoms[k].1, av] := (hrc.grow g35).fr hfd fun e => by omega
        have hfw : Fr (fun i => i = w15.heap.size ∨ w19.heap.size ≤ i) w19 wd := (hf.trans (Fr.of_grow g35)).trans (hfd.mono fun i _ e => .inr (by omega))
        refine fieldPush el_tm (by omega) spF_len spF_one hwl hrd hod s19 (by omega) (by simp; omega) (by omega) fun v w' hr2 ho2 hf2 => ⟨by unfold inR; omega, ⟨p + 1, v, by omega, by omega, hr2, ?_, hfw.trans hf2⟩, by first | omega | (dsimp only; omega)⟩
        rw [map_take_snoc _ hpl, ← hz]
        exact ho2
      have same : y = tmM m' atoms[k].2[p] → ∃ t_v : Value, w35.cell? (Addr.add ⟨w15.heap.size, 0, none⟩ 1) = some t_v ∧ ∃ cs_v : List Value, cs_v.length = 2 ∧ (∀ j v, cs_v[j]? = some v → w35.cell? (Addr.add ⟨w29.heap.size, 0, none⟩ j) = some v) ∧ ∃ t_v2 : Value, ∃ w_v : World, (Instr.buildSlice 140 1 #[(0, (Value.agg cs_v.toArray))]).run Tryz.prog w35 = .ok t_v2 w_v ∧ PApp Tryz.prog 140 140 t_v t_v2 w_v fun t w69 => oneV t ∧ (∃ old, w69.cell? (Addr.add ⟨w15.heap.size, 0, none⟩ 1) = some old) ∧ w69.frozen? (Addr.add ⟨w15.heap.size, 0, none⟩ 1) = false ∧ ∀ w70, w70 = w69.setCell (Addr.add ⟨w15.heap.size, 0, none⟩ 1) t →
          inR ((p : Int) + 1) ∧ ((∃ (p' : Nat) (av : Value), (p : Int) + 1 = p' ∧ p' ≤ atoms[k].2.length ∧ RecV w70 w15.heap.size [.int .i64 atoms[k].1, av] ∧ OwnP w70 w19.heap.size av ((atoms[k].2.take p').map (tmM m')) ∧ Fr (fun i => i = w15.heap.size ∨ w19.heap.size ≤ i) w19 w70) ∧ atoms[k].2.length - Int.toNat ((p : Int) + 1) < atoms[k].2.length - Int.toNat (p : Int)) := fun e =>
        ⟨av, (hrc.grow g35).cell (j := 1) rfl, [_, _], rfl, ht.all, bs1 el_tm (by omega) (by omega) (cs := #[.int .i64 y.1, .int .i64 y.2]) rfl w35 fun w38 hw38 => next y e (Fr.refl _ _) hw38⟩
      have hget := (hm.grow (g029.trans g35)).get um uk ui uz y.1 true
      have hfst : 0 ≤ y.1 := by rw [ey]; exact tm_fst _
      obtain ⟨n, hn⟩ := getM_int hN y.1.toNat
      rw [Int.toNat_of_nonneg hfst] at hn
      rw [if_pos rfl, hn] at hget
      refine ⟨_, ht.cell (j := 0) rfl, n, _, _, hget, condP_i (fun hok => ⟨_, ht.cell (j := 1) rfl, condD (fun h0 => ?_) fun h0 => same ?_⟩) fun hok => same ?_⟩
      · rw [if_pos ⟨h0, hok⟩] at htm
        have hnv : n = mg m' atoms[k].2[p].toNat := by
          obtain ⟨v, hv⟩ := Option.isSome_iff_exists.1 hok
          have h2 := getM_tm hN (x := atoms[k].2[p]) (v := v) (by rw [← ey]; exact h0) hp (by rw [← ey]; exact hv)
          rw [hv, h2] at hn
          have hn : Value.int .i64 (mg m' atoms[k].2[p].toNat) = .int .i64 n := hn
          simp at hn
          exact hn.symm
        rw [← hnv] at htm
        refine ht.store (cs := [.int .i64 0, .int .i64 n]) rfl (by
          intro y hy
          simp at hy
          rcases hy with rfl | rfl <;> rfl) fun w42 hf42 hr42 => ?_
        refine ⟨av, ((hrc.grow g35).fr hf42 fun e => by omega).cell (j := 1) rfl, [_, _], rfl, hr42.all, bs1 el_tm (by omega) (by omega) (cs := #[.int .i64 0, .int .i64 n]) rfl w42 fun w46 hw46 => next (0, n) htm.symm hf42 hw46⟩
      · rw [if_neg fun h => h0 h.1] at htm
        exact htm.symm
      · rw [if_neg fun h => by rw [h.2] at hok; cases hok] at htm
        exact htm.symm
    · have hpl : p = atoms[k].2.length := by omega
      rw [hpl, List.take_length] at hown
      have g929 := g15.trans g1529
      have s9 := g9.size
      have hbl2 : ∀ b, out.ownBlock = some b → b < w19.heap.size := fun b hb => by
        have := (hout.lt hb).2
        omega
      refine ⟨[_, _], rfl, hrc.all, bs1 el_ta (by omega) (by omega) (cs := #[.int .i64 atoms[k].1, av]) rfl w29 fun w' hw' => ?_⟩
      refine pappX1 el_ta (by omega) (cs := [.int .i64 atoms[k].1, av]) (y := tsub m' atoms[k]) (hout.grow g929) hw' (elx_tm hown (fun b hb => by have hb : b < w.heap.size := hb; omega) hbl2) (by have := g929.size; omega) (by simp; omega) (by omega) ?_
      intro v2 w2 ho2 hf2 _ _
      refine ⟨by unfold inR; omega, ⟨k + 1, by omega, by omega, by rw [map_take_snoc _ hkl]; exact ho2, ?_⟩, by first | omega | (dsimp only; omega)⟩
      exact ((g9.trans g929).trans (alloc_grow hw')).fr hf2 fun i hi e => by
        have := (hout.lt e.symm).1
        omega
  · have hkl : k = atoms.length := by omega
    rw [hkl, List.take_length] at hout
    exact ⟨_, rfl, hout.slX, g9⟩
end Go.Proofs.YtmjpnfapjcfejaaGreatDoor

/- Contracts: atoms of terms as a query; the numbers that an atom and a fact give, by the program. No condition. -/
namespace Go.Proofs.YtmjpnfapjcfejaaGreatDoor
open Go Go.RowKit VC
set_option linter.unusedSimpArgs false
set_option linter.unusedVariables false

/-! ## As a query -/
theorem query_c {w : World} {lv : Value} {l : List TAtm} (sl : SlTA w lv l) (h3 : ∀ a ∈ l, a.2.length ≤ 3) (h5 : l.length ≤ 5) :
    Calls Tryz.prog 103 #[lv] w fun e w' => ∃ bv, e = .returned (.agg #[.slice none 0 0, bv]) ∧ SlA w' bv (l.map qryA) ∧ Grow w w' := by
  refine f103_calls _ fun w1 hw1 w2 hw2 => SlX.ln sl ?_
  have g1 := alloc_grow hw1
  have g2 := alloc_grow hw2
  have s1 := alloc_size hw1
  have s2 := alloc_size hw2
  have g02 := g1.trans g2
  have hQ := RecV.new hw2
  refine ⟨fun t w' => ∃ (k : Nat) (out : Value), t = k ∧ k ≤ l.length ∧ RecV w' w1.heap.size [.slice none 0 0, out] ∧ OwnA w' w2.heap.size out ((l.take k).map qryA) ∧ Fr (fun i => i = w1.heap.size ∨ w2.heap.size ≤ i) w2 w', fun t _ => l.length - t.toNat, ⟨0, _, rfl, by omega, hQ, OwnX.nil _ _ _, Fr.refl _ _⟩, ?_⟩
  rintro - t w10 ⟨k, out, rfl, hk, hq, hout, hf10⟩
  have gW : ∀ {w'}, Fr (fun i => i = w1.heap.size ∨ w2.heap.size ≤ i) w2 w' → Grow w w' := fun hf => g02.fr hf fun i hi e => by omega
  have g10 := gW hf10
  have sz10 := hf10.size
  refine condD (fun hlt => ?_) fun hge => ?_
  · have hkl : k < l.length := by omega
    have hl3 := h3 _ (List.getElem_mem hkl)
    refine locT sl g10 rfl hkl rfl fun w16 u g16 s16 hu hc => ⟨_, hc.cell (j := 0) rfl, fun w19 hw19 => RecV.init (cs := [.int .i64 l[k].1, .slice none 0 0]) hw19 rfl (rec_nil _) fun w20 g20 s20 hC => ?_⟩
    refine ⟨u, (hc.grow g20).cell (j := 1) rfl, SlR.ln hu ?_⟩
    refine ⟨fun t w' => ∃ (p : Nat) (av : Value), t = p ∧ p ≤ l[k].2.length ∧ RecV w' w16.heap.size [.int .i64 l[k].1, av] ∧ Own w' w20.heap.size 3 1 av ((l[k].2.take p).map tq).length (((l[k].2.take p).map tq).flatMap intF) ∧ Fr (fun i => i = w16.heap.size ∨ w20.heap.size ≤ i) w20 w', fun t _ => l[k].2.length - t.toNat,
      ⟨0, _, rfl, by omega, hC, Own.nil _ _ _ _, Fr.refl _ _⟩, ?_⟩
    rintro - t w30 ⟨p, av, rfl, hpp, hrc, hown, hf⟩
    have g1630 : Grow w16 w30 := g20.fr hf fun i hi e => by omega
    have g1030 := g16.trans g1630
    refine condD (fun hlt2 => ?_) fun hge2 => ?_
    · have hpl : p < l[k].2.length := by omega
      refine locP hu (g10.trans g1030) rfl hpl rfl fun w36 g36 s36 ht => ⟨_, ht.cell (j := 1) rfl, ?_⟩
      have next : ∀ (z : Int) {wl : World}, z = tq l[k].2[p] → wl = w36.alloc (.cells (intF z).toArray 3) → PApp Tryz.prog 22 22 av (.slice (some ⟨w36.heap.size, 0, none⟩) 1 1) wl fun t w69 => oneV t ∧ (∃ old, w69.cell? (Addr.add ⟨w16.heap.size, 0, none⟩ 1) = some old) ∧ w69.frozen? (Addr.add ⟨w16.heap.size, 0, none⟩ 1) = false ∧ ∀ w70, w70 = w69.setCell (Addr.add ⟨w16.heap.size, 0, none⟩ 1) t →
          inR ((p : Int) + 1) ∧ ((∃ (p' : Nat) (av : Value), (p : Int) + 1 = p' ∧ p' ≤ l[k].2.length ∧ RecV w70 w16.heap.size [.int .i64 l[k].1, av] ∧ Own w70 w20.heap.size 3 1 av ((l[k].2.take p').map tq).length (((l[k].2.take p').map tq).flatMap intF) ∧ Fr (fun i => i = w16.heap.size ∨ w20.heap.size ≤ i) w20 w70) ∧ l[k].2.length - Int.toNat ((p : Int) + 1) < l[k].2.length - Int.toNat (p : Int)) := fun z wl hz hwl => by
        have sz30 := hf.size
        have sz36 := g36.size
        refine fieldPush el_int (by omega) intF_len intF_one hwl (hrc.grow g36) (Own.grow hown g36) s20 (by omega) (by simp; omega) (by omega) fun v w' hr2 ho2 hf2 => ⟨by unfold inR; omega, ⟨p + 1, v, by omega, by omega, hr2, ?_, (hf.trans (Fr.of_grow g36)).trans hf2⟩, by first | omega | (dsimp only; omega)⟩
        rw [map_take_snoc _ hpl, ← hz]
        exact ho2
      refine condD (fun h0 => ⟨av, (hrc.grow g36).cell (j := 1) rfl, fun w40 hw40 => next (-1) ?_ hw40⟩) fun h0 => ⟨av, (hrc.grow g36).cell (j := 1) rfl, _, ht.cell (j := 0) rfl, fun w46 hw46 => next l[k].2[p].1 ?_ hw46⟩
      · rw [tq, if_pos h0]
      · rw [tq, if_neg h0]
    · have hpl : p = l[k].2.length := by omega
      rw [hpl, List.take_length] at hown
      have ho : OwnI w30 w20.heap.size av (l[k].2.map tq) := by
        rw [intF_map] at hown
        exact hown
      have s10 := g10.size
      have sz1030 := g1030.size
      have hbl2 : ∀ b, out.ownBlock = some b → b < w20.heap.size := fun b hb => by
        have := (hout.lt hb).2
        have := g16.size
        omega
      have hne1 : ∀ b, out.ownBlock = some b → b ≠ w1.heap.size := fun b hb => by
        have := (hout.lt hb).1
        omega
      have hq30 : RecV w30 w1.heap.size [.slice none 0 0, out] := hq.grow g1030
      refine ⟨out, hq30.cell (j := 1) rfl, [_, _], rfl, hrc.all, bs1 el_atom (by omega) (by omega) (cs := #[.int .i64 l[k].1, av]) rfl w30 fun w' hw' => ?_⟩
      refine pappX1 el_atom (by omega) (cs := [.int .i64 l[k].1, av]) (y := qryA l[k]) (hout.grow g1030) hw' (elx_own ho (fun b hb => by have hb : b < w2.heap.size := hb; omega) hbl2) (by omega) (by simp; omega) (by omega) ?_
      intro v2 w55 ho2 hf2 _ _
      have gl := alloc_grow hw'
      have hq55 : RecV w55 w1.heap.size [.slice none 0 0, out] := (hq30.grow gl).fr hf2 fun e => hne1 _ e.symm rfl
      refine ⟨ho2.one, ⟨_, hq55.cell (j := 1) rfl⟩, hq55.free 1, fun w56 hw56 => ⟨by unfold inR; omega, ⟨k + 1, v2, by omega, by omega, hq55.set hw56, ?_, ?_⟩, by first | omega | (dsimp only; omega)⟩⟩
      · rw [map_take_snoc _ hkl]
        exact ho2.fr (RecV.set_fr hw56) (fun b hb => by show b < w2.heap.size; omega) fun b hb e => by
          have := (ho2.lt hb).1
          omega
      · refine (hf10.trans (Fr.of_grow (g1030.trans gl))).trans ((hf2.mono fun i _ e => .inr ?_).trans ((RecV.set_fr hw56).mono fun i _ e => .inl e))
        have := (hout.lt e.symm).1
        omega
  · have hkl : k = l.length := by omega
    rw [hkl, List.take_length] at hout
    have hR1 : RecV w10 w.heap.size [.slice none 0 0, .slice none 0 0] := ((RecV.new hw1).grow g2).fr hf10 fun e => by omega
    refine ⟨[_, _], rfl, hq.all, hR1.store (cs := [.slice none 0 0, out]) rfl (by
      intro y hy
      simp at hy
      rcases hy with rfl | rfl
      · rfl
      · exact hout.one.2) fun w58 hf58 hr58 => ⟨[_, _], rfl, hr58.all, _, rfl, ?_, g10.fr hf58 fun i hi e => by omega⟩⟩
    exact (hout.fr hf58 (fun b hb => by have hb : b = w.heap.size := hb; show b < w2.heap.size; omega) fun b hb e => by
      have := (hout.lt hb).1
      have e : b = w.heap.size := e
      omega).slX
/-! ## An atom and a fact -/
theorem fitR_keep {xs ys m m' : List Int} (hx : ∀ x ∈ xs, x ≤ 7) (hy : ∀ y ∈ ys, 1 ≤ y) (h8 : m.length = 8) (hl : xs.length ≤ ys.length) (h : fitR xs ys m = some m') : m'.length = 8 ∧ ∀ x, mg m x ≠ 0 → mg m' x = mg m x :=
  ⟨(fitR_sound hx hy h8 hl h).1, (fitR_sound hx hy h8 hl h).2.1⟩
/-- What agrees returns. -/
def AgrR (w : World) (m : List Int) (o : Option (List Int)) : Ending → World → Prop := fun e w' => Grow w w' ∧ match o with
  | none => ∃ mv, e = .returned (.tuple #[mv, .bool false])
  | some m' => ∃ mb kv, e = .returned (.tuple #[.map (some mb), .bool true]) ∧ MapI w' mb kv ∧ NewM kv m m'
theorem agrees_c {w : World} {r q : Int} {tv fv : Value} {xs ys m : List Int} {many : Nat} (ht : SlP w tv (xs.map (tmM m))) (hf : SlI w fv ys) (hT : ∀ x ∈ xs, -9 ≤ x ∧ x ≤ 7) (hY : ∀ y ∈ ys, 1 ≤ y) (h8 : m.length = 8) (hp : PosM m) (hmany : many ≤ xs.length) :
    Calls Tryz.prog 105 #[.agg #[.int .i64 r, tv], .agg #[.int .i64 q, fv], .int .i64 (many : Int)] w (AgrR w m (if xs.length = ys.length then fitR (xs.take many) ys m else none)) := by
  obtain ⟨um, uk, ui, uz⟩ := el_mapI
  refine f105_calls _ _ _ ⟨_, rfl, fun w1 hw1 => ⟨_, rfl, fun w3 hw3 => ?_⟩⟩
  have g1 := alloc_grow hw1
  have g3 := alloc_grow hw3
  have s1 := alloc_size hw1
  have s3 := alloc_size hw3
  have g03 := g1.trans g3
  have hA3 := (RecV.new hw1).grow g3
  have hF3 := RecV.new hw3
  refine MapI.make _ w3 fun w5 hw5 hm5 g5 s5 => ?_
  have hA5 := hA3.grow g5
  have hF5 := hF3.grow g5
  have g05 := g03.trans g5
  refine ⟨_, hA5.cell (j := 1) rfl, SlR.ln ht ⟨_, hF5.cell (j := 1) rfl, hf.ln ?_⟩⟩
  rw [List.length_map]
  refine condP_i (fun hne => ?_) fun heq => ?_
  · have hne : ¬ xs.length = ys.length := fun e => by rw [e] at hne; simp at hne
    rw [if_neg hne]
    exact ⟨g05, _, rfl⟩
  have heq : xs.length = ys.length := by simp at heq; omega
  rw [if_pos heq]
  have hle : (xs.take many).length = many := by simp; omega
  obtain ⟨zs, ez⟩ : ∃ zs, zs = xs.take many := ⟨_, rfl⟩
  rw [← ez] at hle
  have hzT : ∀ x ∈ zs, -9 ≤ x ∧ x ≤ 7 := fun x hx => hT x (List.mem_of_mem_take (ez ▸ hx))
  have eml : (xs.map (tmM m)).take many = zs.map (tmM m) := by rw [← List.map_take, ez]
  have hmx := SlR.len_le ht
  rw [List.length_map] at hmx
  obtain ⟨pa, pn, pc, pe, pl, ph, pm, pb, hv'⟩ := SlR.upto ht spF_len (i := many) (ik := .i64) (z := (many : Int)) (K := fun x => SlP w x ((xs.map (tmM m)).take many)) rfl (by rw [List.length_map]; exact hmany) fun v' h => h
  refine ⟨_, hA5.cell (j := 1) rfl, pa, pn, pc, pe, pl, ph, pm, pb, SlR.ln hv' ?_⟩
  rw [eml] at hv' ⊢
  rw [List.length_map, ← ez, hle]
  have fin : ∀ {w'}, Fr (fun i => i = w3.heap.size) w5 w' → Grow w w' := fun hf => g05.fr hf fun i hi e => by omega
  have no : ∀ {w' : World} {mv : Value}, Grow w w' → fitR zs ys m = none → AgrR w m (fitR zs ys m) (.returned (.tuple #[mv, .bool false])) w' := fun g h => by
    rw [h]
    exact ⟨g, _, rfl⟩
  refine ⟨fun t w' => ∃ (k : Nat) (mk : List Int) (kv : List (Int × Value)), t = k ∧ k ≤ many ∧ fitR (zs.take k) ys m = some mk ∧ MapI w' w3.heap.size kv ∧ NewM kv m mk ∧ Fr (fun i => i = w3.heap.size) w5 w', fun t _ => many - t.toNat, ⟨0, m, [], rfl, by omega, by rw [List.take_zero]; rfl, hm5, NewM.nil m, Fr.refl _ _⟩, ?_⟩
  rintro - t w29 ⟨k, mk, kv, rfl, hk, hfit, hmI, hN, hfr⟩
  have g029 := fin hfr
  have hF29 : RecV w29 w1.heap.size [.int .i64 q, fv] := hF5.fr hfr fun e => by omega
  refine condD (fun hlt => ?_) fun hge => ?_
  · have hkm : k < many := by omega
    have hkz : k < zs.length := by omega
    have hmy : many ≤ ys.length := by omega
    have hky : k < ys.length := by omega
    have hkz' : k < (zs.map (tmM m)).length := by rw [List.length_map]; exact hkz
    have ek : (zs.map (tmM m))[k] = tmM m zs[k] := List.getElem_map ..
    have hstep := fitR_take (m := m) hkz hky
    rw [hfit] at hstep
    have hbad : fitR (zs.take (k + 1)) ys m = none → fitR zs ys m = none := fun h => fitR_bad (k := k + 1) (by omega) h
    have hx := hzT _ (List.getElem_mem hkz)
    have hy1 := hY _ (List.getElem_mem hky)
    obtain ⟨k8, keep⟩ := fitR_keep (fun x hx => (hzT x (List.mem_of_mem_take hx)).2) hY h8 (by rw [List.length_take]; omega) hfit
    obtain ⟨x, ex⟩ : ∃ x, x = zs[k] := ⟨_, rfl⟩
    obtain ⟨y, ey⟩ : ∃ y, y = ys[k] := ⟨_, rfl⟩
    rw [← ex, ← ey] at hstep
    rw [← ex] at hx ek
    rw [← ey] at hy1
    have hstep : fitR (zs.take (k + 1)) ys m = if x < 0 then (if y = -x then some mk else none) else if mg mk x.toNat ≠ 0 ∧ mg mk x.toNat ≠ y then none else some (mk.set x.toNat y) := hstep
    refine locP hv' g029 rfl hkz' rfl fun w35 g35 s35 hTm => ?_
    rw [ek] at hTm
    have g035 := g029.trans g35
    have hF35 := hF29.grow g35
    have hm35 := hmI.grow g35
    have hf35 : Fr (fun i => i = w3.heap.size) w5 w35 := hfr.trans (Fr.of_grow g35)
    -- nothing new, or a new number
    have stay : ∀ {wd : World}, Grow w35 wd → fitR (zs.take (k + 1)) ys m = some mk → inR ((k : Int) + 1) ∧ ((∃ (k' : Nat) (mk : List Int) (kv : List (Int × Value)), (k : Int) + 1 = k' ∧ k' ≤ many ∧ fitR (zs.take k') ys m = some mk ∧ MapI wd w3.heap.size kv ∧ NewM kv m mk ∧ Fr (fun i => i = w3.heap.size) w5 wd) ∧ many - Int.toNat ((k : Int) + 1) < many - Int.toNat (k : Int)) := fun {wd} gd h =>
      ⟨by unfold inR; omega, ⟨k + 1, mk, kv, by omega, by omega, h, hm35.grow gd, hN, hf35.trans (Fr.of_grow gd)⟩, by first | omega | (dsimp only; omega)⟩
    have upd : 0 ≤ x → mg m x.toNat = 0 → (mg mk x.toNat = 0 ∨ mg mk x.toNat = y) → ∀ {wd : World}, Grow w35 wd → ∃ w54 : World, (Instr.mapUpdate 113 (.map (some w3.heap.size)) (.int .i64 x) (.int .i64 y)).run Tryz.prog wd = .ok () w54 ∧ inR ((k : Int) + 1) ∧ ((∃ (k' : Nat) (mk : List Int) (kv : List (Int × Value)), (k : Int) + 1 = k' ∧ k' ≤ many ∧ fitR (zs.take k') ys m = some mk ∧ MapI w54 w3.heap.size kv ∧ NewM kv m mk ∧ Fr (fun i => i = w3.heap.size) w5 w54) ∧ many - Int.toNat ((k : Int) + 1) < many - Int.toNat (k : Int)) := fun h0 hm0 hold {wd} gd => by
      obtain ⟨w54, hrun, hm54, hf54⟩ := (hm35.grow gd).set (P := Tryz.prog) um uk x (.int .i64 y)
      refine ⟨w54, hrun, by unfold inR; omega, ⟨k + 1, mk.set x.toNat y, _, by omega, by omega, ?_, hm54, ?_, (hf35.trans (Fr.of_grow gd)).trans hf54⟩, by first | omega | (dsimp only; omega)⟩
      · rw [hstep, if_neg (by omega), if_neg]
        rintro ⟨h1, h2⟩
        rcases hold with h | h
        · exact h1 h
        · exact h2 h
      · have := NewM.upd hN (y := x.toNat) (by omega) hm0 (z := y) (by omega)
        rwa [Int.toNat_of_nonneg h0] at this
    refine ⟨_, hTm.cell (j := 1) rfl, condD (fun h0 => ?_) fun h0 => ?_⟩
    · obtain ⟨hx0, hmx, htm⟩ : 0 ≤ x ∧ mg m x.toNat = 0 ∧ tmM m x = (x, 0) := by
        unfold tmM at h0 ⊢
        by_cases h1 : x < 0
        · rw [if_pos h1] at h0
          dsimp only at h0
          omega
        · rw [if_neg h1] at h0 ⊢
          by_cases h2 : mg m x.toNat ≠ 0
          · rw [if_pos h2] at h0
            exact absurd h0 h2
          · rw [if_neg h2]
            exact ⟨by omega, by omega, rfl⟩
      rw [htm] at hTm
      have hget := hm35.get (P := Tryz.prog) um uk ui uz x false
      have hval : (getM kv x).getD (.int .i64 0) = .int .i64 (mg mk x.toNat) := by
        have := hN x.toNat
        rw [Int.toNat_of_nonneg hx0] at this
        rw [this]
        by_cases h1 : mg mk x.toNat = 0
        · rw [if_neg fun h => h.2 h1, h1]
          rfl
        · rw [if_pos ⟨hmx, h1⟩]
          rfl
      rw [if_neg (by decide), hval] at hget
      refine ⟨_, hTm.cell (j := 0) rfl, _, _, hget, condP_i (fun hne => ?_) fun he => ?_⟩
      · have hne : mg mk x.toNat ≠ 0 := by simpa using hne
        refine ⟨_, hF35.cell (j := 1) rfl, (hf.grow g035).rd rfl hky ?_⟩
        rw [← ey]
        refine condP_i (fun hny => no g035 (hbad ?_)) fun hny => ⟨_, hTm.cell (j := 1) rfl, cT (decide_eq_true rfl) fun d => ?_⟩
        · have hny : mg mk x.toNat ≠ y := by simpa using hny
          rw [hstep, if_neg (by omega), if_pos ⟨hne, hny⟩]
        · have hny : mg mk x.toNat = y := by simpa using hny
          have gd : Grow w35 (dr w35 d.1) := (Grow.refl w35).dr d.1
          refine ⟨_, (hTm.grow gd).cell (j := 0) rfl, _, (hF35.grow gd).cell (j := 1) rfl, (hf.grow (g035.trans gd)).rd rfl hky ?_⟩
          rw [← ey]
          exact upd hx0 hmx (.inr hny) gd
      · have he : mg mk x.toNat = 0 := by simpa using he
        refine ⟨_, hTm.cell (j := 1) rfl, cT (decide_eq_true rfl) fun d => ?_⟩
        have gd : Grow w35 (dr w35 d.1) := (Grow.refl w35).dr d.1
        refine ⟨_, (hTm.grow gd).cell (j := 0) rfl, _, (hF35.grow gd).cell (j := 1) rfl, (hf.grow (g035.trans gd)).rd rfl hky ?_⟩
        rw [← ey]
        exact upd hx0 hmx (.inl he) gd
    · refine condP_i (fun _ => ?_) fun h => absurd (by simpa using h) h0
      refine ⟨_, hF35.cell (j := 1) rfl, (hf.grow g035).rd rfl hky ?_⟩
      rw [← ey]
      have hcase : (x < 0 ∧ (tmM m x).2 = -x) ∨ (0 ≤ x ∧ mg m x.toNat ≠ 0 ∧ (tmM m x).2 = mg m x.toNat) := by
        unfold tmM at h0 ⊢
        by_cases h1 : x < 0
        · rw [if_pos h1]
          exact .inl ⟨h1, rfl⟩
        · rw [if_neg h1] at h0 ⊢
          by_cases h2 : mg m x.toNat ≠ 0
          · rw [if_pos h2]
            exact .inr ⟨by omega, h2, rfl⟩
          · rw [if_neg h2] at h0
            exact absurd rfl h0
      refine condP_i (fun hny => no g035 (hbad ?_)) fun hny => ⟨_, hTm.cell (j := 1) rfl, cF (decide_eq_false h0) (stay (Grow.refl _) ?_)⟩
      · have hny : (tmM m x).2 ≠ y := by simpa using hny
        rw [hstep]
        rcases hcase with ⟨c1, c2⟩ | ⟨c1, c2, c3⟩
        · rw [if_pos c1, if_neg (by omega)]
        · rw [if_neg (by omega), if_pos]
          rw [keep _ c2]
          exact ⟨c2, by first | omega | (dsimp only; omega)⟩
      · have hny : (tmM m x).2 = y := by simpa using hny
        rw [hstep]
        rcases hcase with ⟨c1, c2⟩ | ⟨c1, c2, c3⟩
        · rw [if_pos c1, if_pos (by omega)]
        · have h5 := keep _ c2
          have h6 : mg mk x.toNat = y := by omega
          rw [if_neg (by omega), if_neg fun h => h.2 h6, ← h6, set_mg (by omega)]
  · have hkm : k = many := by omega
    rw [hkm, List.take_of_length_le (by omega)] at hfit
    rw [hfit]
    exact ⟨g029, _, _, rfl, hmI, hN⟩
end Go.Proofs.YtmjpnfapjcfejaaGreatDoor

/- Attacks and closures as the reference finds them, step by step. Of no program. No condition. -/
namespace Go.Proofs.YtmjpnfapjcfejaaGreatDoor
open Go VC
set_option linter.unusedSimpArgs false
set_option linter.unusedVariables false

/-! ## Closures -/
/-! ## The atoms that are met -/
/-! ## Dependencies, but one -/
/-- The sets of variables of atoms, and of their keys, but those that were replaced. -/
def VG (gone : Nat) (b : List Atm) : List Nat := b.map fun a => nSub (varsL a.2) gone
def KG (s : List Int) (gone : Nat) (b : List Atm) : List Nat := b.map fun a => nSub (varsL (a.2.take (klS s a.1))) gone
theorem nSub_0 (a : Nat) : nSub a 0 = a := Nat.eq_of_testBit_eq fun i => by rw [nSub_bit, Nat.zero_testBit]; simp
theorem VG_0 (b : List Atm) : VG 0 b = varsOf b := by
  unfold VG varsOf
  exact List.map_congr_left fun a _ => nSub_0 _
theorem KG_0 (s : List Int) (b : List Atm) : KG s 0 b = keysOf s b := by
  unfold KG keysOf
  exact List.map_congr_left fun a _ => nSub_0 _
end Go.Proofs.YtmjpnfapjcfejaaGreatDoor

/- The facts in reverse: the same answers. Of no program. No condition. -/
namespace Go.Proofs.YtmjpnfapjcfejaaGreatDoor
open VC
set_option linter.unusedSimpArgs false
set_option linter.unusedVariables false

theorem nodup_rev {α : Type} {L : List α} (h : L.Nodup) : L.reverse.Nodup := List.pairwise_reverse.2 (h.imp Ne.symm)
section
variable {s h : List Int} {b L : List Atm}
theorem askO_rev (h : List Int) (b L : List Atm) : (askO h b L.reverse).1 = (askO h b L).1 := by
  unfold askO
  rw [okFs_rev, runF_rev]
theorem askE_rev (q : Bool) (s h : List Int) (b L : List Atm) : askE q s h b L.reverse = askE q s h b L := by
  unfold askE
  rw [okR_rev, askO_rev]
theorem mem_rev {α : Type} (L : List α) : ∀ a, a ∈ L.reverse ↔ a ∈ L := fun _ => List.mem_reverse
/-- What is asked of the facts of a repair, asked of all repairs. -/
theorem all_rev (hn : L.Nodup) {c : List Atm → Prop} (hc : ∀ F G : List Atm, srtF F = srtF G → (c F ↔ c G)) : (∀ m ∈ allR (klS s) L.reverse, c (ofM L.reverse m)) ↔ ∀ m ∈ allR (klS s) L, c (ofM L m) := by
  have hn' : L.reverse.Nodup := nodup_rev hn
  constructor
  · intro h m hm
    have h1 := repS_sub hn hn' (fun a => (mem_rev L a).symm) (List.mem_map.2 ⟨m, hm, rfl⟩ : srtF (ofM L m) ∈ repS (klS s) L)
    obtain ⟨m', hm', e⟩ := List.mem_map.1 h1
    exact (hc _ _ e).1 (h m' hm')
  · intro h m hm
    have h1 := repS_sub hn' hn (fun a => mem_rev L a) (List.mem_map.2 ⟨m, hm, rfl⟩ : srtF (ofM L.reverse m) ∈ repS (klS s) L.reverse)
    obtain ⟨m', hm', e⟩ := List.mem_map.1 h1
    exact (hc _ _ e).1 (h m' hm')
theorem str_sureR (s h : List Int) (b L : List Atm) : StrK id (sureR s h b L) := by
  unfold sureR sureK
  split
  · exact List.Pairwise.nil
  · exact List.Pairwise.sublist List.filter_sublist (str_srt key_id _)
theorem sureR_rev (hn : L.Nodup) : sureR s h b L.reverse = sureR s h b L := by
  have hn' : L.reverse.Nodup := nodup_rev hn
  refine str_uniq (str_sureR _ _ _ _) (str_sureR _ _ _ _) fun x => ?_
  rw [mem_sureR (allR_ne hn'), mem_sureR (allR_ne hn)]
  exact all_rev hn (c := fun F => x ∈ rowsOf h (allM (srtF F) b)) fun F G e => by rw [e]
theorem cnts_rev (hn : L.Nodup) : (cnts s b L.reverse).Perm (cnts s b L) := cnts_perm (nodup_rev hn) hn (fun a => mem_rev L a) b
theorem lowHigh_rev (hn : L.Nodup) {lo hi : Int} : LowHigh (natI (cnts s b L.reverse)) lo hi ↔ LowHigh (natI (cnts s b L)) lo hi := by
  have hp : (natI (cnts s b L.reverse)).Perm (natI (cnts s b L)) := (cnts_rev hn).map _
  unfold LowHigh
  rw [hp.mem_iff, hp.mem_iff]
  refine and_congr_right fun _ => and_congr_right fun _ => forall_congr' fun x => ?_
  rw [hp.mem_iff]
theorem shareN_eq (s : List Int) (b L : List Atm) : shareN s b L = ((cnts s b L).filter fun c => decide (c ≠ 0)).length := by
  unfold shareN cnts
  rw [List.filter_map, List.length_map]
  rfl
theorem shareN_rev (hn : L.Nodup) : shareN s b L.reverse = shareN s b L := by
  rw [shareN_eq, shareN_eq]
  exact ((cnts_rev hn).filter _).length_eq
theorem allR_len_rev (hn : L.Nodup) : (allR (klS s) L.reverse).length = (allR (klS s) L).length := by
  have := (cnts_rev (s := s) (b := []) hn).length_eq
  simpa [cnts] using this
theorem rew_rev (n : Nat) (atoms : List Atm) (m : List Int) : rewR (klS s) L.reverse n atoms m = rewR (klS s) L n atoms m := rew_mem (fun a => mem_rev L a) n atoms m
end
end Go.Proofs.YtmjpnfapjcfejaaGreatDoor

/- Contracts: atoms but one (slices.Concat), the first atom that nothing attacks, by the program. No condition. -/
namespace Go.Proofs.YtmjpnfapjcfejaaGreatDoor
open Go Go.RowKit VC
set_option linter.unusedSimpArgs false
set_option linter.unusedVariables false

/-! ## A slice cut, its capacity too -/
theorem SlX.upto3 {α : Type} {k : Nat} {rep : World → List Value → α → Prop} {w : World} {v : Value} {xs : List α} (h : SlX k rep w v xs) {i : Nat} {ik jk : IntKind} {z z' : Int} (hz : z = (i : Int)) (hz' : z' = (i : Int)) (hi : i ≤ xs.length) {K : Value → Prop} (hk : ∀ v', SlX k rep w v' (xs.take i) → K v') :
    ∃ (a : Option Addr) (n c : Nat), v = .slice a n c ∧ ∃ l hh m : Nat, sbR none (some (.int ik z)) (some (.int jk z')) n c l hh m ∧ K (.slice (if m = l then a else a.map (·.add (l * k))) (hh - l) (m - l)) := by
  subst hz
  subst hz'
  obtain ⟨a, c, rfl, h1, h2, h3, h4⟩ := h.ex
  have hl : (xs.take i).length = i := by simp; omega
  refine ⟨a, _, c, rfl, 0, i, i, ⟨rfl, rfl, rfl, by simp, by omega, by omega, by first | omega | (dsimp only; omega)⟩, hk _ ⟨(if i = 0 then a else a.map (·.add (0 * k))), i, by rw [hl]; rfl, by omega, by omega, fun hn => ?_, fun j hj => ?_⟩⟩
  · by_cases hi0 : i = 0
    · exact hi0
    · rw [if_neg hi0] at hn
      have : a = none := by cases a <;> simp at hn ⊢
      have := h3 this
      omega
  · obtain ⟨b, cs, e1, e2, e3, e4⟩ := h4 j (by omega)
    refine ⟨b, cs, ?_, e2, e3, by rw [List.getElem_take]; exact e4⟩
    rw [if_neg (by omega), e1]
    simp [Addr.add]
/-- An atom of terms that lies in older memory. -/
theorem elx_oldT {T : Nat → Prop} {w w0 : World} {a : TAtm} {u out : Value} (hu : SlP w0 u a.2) (g : Grow w0 w) (hT : ∀ b, T b → w0.heap.size ≤ b) (hout : ∀ b, out.ownBlock = some b → w0.heap.size ≤ b) : ElX T 2 repT out w ([.int .i64 a.1, u], a) := by
  refine ⟨rfl, ?_, fun w2 hf => ⟨u, rfl, SlR.grow hu (g.fr hf fun i hi e => ?_)⟩⟩
  · intro y hy
    simp at hy
    rcases hy with rfl | rfl
    · rfl
    · exact (SlR.one hu).2
  · rcases e with e | e
    · have := hT i e; omega
    · have := hout i e.symm; omega
/-! ## slices.Grow, slices.Concat -/
theorem growT_c {w : World} {n : Nat} (hn : n ≤ 10) : Calls Tryz.prog 138 #[.slice none 0 0, .int .i64 (n : Int)] w fun e w' => ∃ v, e = .returned v ∧ OwnX (fun b => w.heap.size ≤ b) 2 repT w' w.heap.size 142 v [] ∧ Grow w w' := by
  by_cases h0 : n = 0
  · subst h0
    refine (Tryz.slices_Grow_same none 0 0 0 w (by omega) (by omega) (by omega) (by omega)).mono ?_
    rintro e w' ⟨rfl, rfl⟩
    exact ⟨_, rfl, OwnX.nil _ _ _, Grow.refl _⟩
  · obtain ⟨i, hi, hz, hsize, hby⟩ := el_ta.info
    refine (Tryz.slices_Grow_new i _ hi hz (by omega) none 0 0 n [] w (by omega) (by omega) (by rw [hby]; omega) (by omega) (by simp) (fun _ => rfl) (fun a h => by cases h)).mono ?_
    rintro e w' ⟨rfl, rfl⟩
    have h1 := grownCap_ge w (0 + n) 0 142
    have h2 := grownCap_le_maxLen w (0 + n) 0 142 (by unfold maxLen; omega)
    obtain ⟨cur, ecur⟩ : ∃ cur : Array Value, cur = (([] : List Value).toArray ++ Builtin.zeroCells (Value.agg #[.int .i64 0, .slice none 0 0]).cells (0 + n - 0) ++ Builtin.zeroCells (Value.agg #[.int .i64 0, .slice none 0 0]).cells (grownCap w (0 + n) 0 142 - (0 + n))) := ⟨_, rfl⟩
    rw [← ecur]
    have hsz : cur.size = grownCap w (0 + n) 0 142 * 2 := by
      rw [ecur, Array.size_append, Array.size_append, size_zeroCells, size_zeroCells]
      show 0 + (0 + n - 0) * 2 + (grownCap w (0 + n) 0 142 - (0 + n)) * 2 = grownCap w (0 + n) 0 142 * 2
      omega
    have hg : Grow w (w.drew.alloc (.cells cur 142)) := (Below.drew (Grow.refl w)).alloc (Nat.le_refl _) _
    have hh : (w.drew.alloc (.cells cur 142)).heap[w.heap.size]? = some (.cells cur 142 (0, 0)) := heap_alloc_new w.drew _
    exact ⟨_, rfl, ⟨[], rfl, (fun p hp => by cases hp), rfl, .inr ⟨w.heap.size, grownCap w (0 + n) 0 142, cur, rfl, Nat.le_refl _, hh, by simp, h2, hsz, by simp⟩⟩, hg⟩
theorem concatT_c {w : World} {v s1 s2 : Value} {l1 l2 : List TAtm} (hv : SlC w v 2 [s1, s2]) (h1 : SlTA w s1 l1) (h2 : SlTA w s2 l2) (hl : l1.length + l2.length ≤ 10) :
    Calls Tryz.prog 104 #[v] w fun e w' => ∃ u, e = .returned u ∧ SlTA w' u (l1 ++ l2) ∧ Grow w w' := by
  obtain ⟨a, c, rfl, v1, v2, v3, v4⟩ := hv.ex
  obtain ⟨a, rfl⟩ : ∃ b, a = some b := by
    obtain ⟨b, e, _⟩ := v4 0 s1 rfl
    exact ⟨b, e⟩
  have rd : ∀ {w'}, Grow w w' → ∀ {i : Nat} {u : Value}, [s1, s2][i]? = some u → w'.cell? (a.add (Int.toNat (i : Int) * 1)) = some u := fun {w'} g {i u} hi => by
    obtain ⟨b, e, hc⟩ := v4 i u hi
    cases e
    rw [Int.toNat_natCast, Nat.mul_one]
    exact g.cell hc
  refine f104_calls _ ⟨_, _, _, rfl, ?_⟩
  refine ⟨fun size t w' => ∃ k : Nat, t = k ∧ k ≤ 2 ∧ size = (if k = 0 then 0 else if k = 1 then (l1.length : Int) else (l1.length : Int) + (l2.length : Int)) ∧ w' = w, fun _ t _ => 2 - t.toNat, ⟨0, rfl, by omega, rfl, rfl⟩, ?_⟩
  rintro - size t w9 ⟨k, rfl, hk, hsize, rfl⟩
  refine condD (fun hlt => ?_) fun hge => ?_
  · have hk01 : k = 0 ∨ k = 1 := by omega
    rcases hk01 with rfl | rfl
    · rw [if_pos rfl] at hsize
      subst hsize
      refine ⟨a, _, _, rfl, by omega, s1, rd (Grow.refl _) (i := 0) rfl, SlX.ln h1 ⟨by unfold inR; omega, cF (decide_eq_false (by omega)) ⟨by unfold inR; omega, ⟨1, by omega, by omega, ?_, rfl⟩, by first | omega | (dsimp only; omega)⟩⟩⟩
      rw [if_neg (by omega), if_pos rfl]
      omega
    · rw [if_neg (by omega), if_pos rfl] at hsize
      subst hsize
      refine ⟨a, _, _, rfl, by omega, s2, rd (Grow.refl _) (i := 1) rfl, SlX.ln h2 ⟨by unfold inR; omega, cF (decide_eq_false (by omega)) ⟨by unfold inR; omega, ⟨2, by omega, by omega, ?_, rfl⟩, by first | omega | (dsimp only; omega)⟩⟩⟩
      rw [if_neg (by omega), if_neg (by omega)]
  · have hk2 : k = 2 := by omega
    subst hk2
    rw [if_neg (by omega), if_neg (by omega)] at hsize
    have hsize : size = ((l1.length + l2.length : Nat) : Int) := by omega
    subst hsize
    refine (growT_c (n := l1.length + l2.length) (by omega)).mono ?_
    rintro e w17 ⟨v0, rfl, ho0, g17⟩
    refine ⟨v0, rfl, some a, _, _, rfl, ?_⟩
    refine ⟨fun nv t w' => ∃ k : Nat, t = k ∧ k ≤ 2 ∧ OwnX (fun b => w9.heap.size ≤ b) 2 repT w' w9.heap.size 142 nv (if k = 0 then [] else if k = 1 then l1 else l1 ++ l2) ∧ Grow w9 w', fun _ t _ => 2 - t.toNat, ⟨0, rfl, by omega, ho0, g17⟩, ?_⟩
    rintro - nv t w28 ⟨k, rfl, hk, hown, g28⟩
    have app : ∀ {s : Value} {l cur : List TAtm} {K : Value → World → Prop}, SlTA w9 s l → l.length + cur.length ≤ 10 → OwnX (fun b => w9.heap.size ≤ b) 2 repT w28 w9.heap.size 142 nv cur → (∀ v' w', OwnX (fun b => w9.heap.size ≤ b) 2 repT w' w9.heap.size 142 v' (cur ++ l) → Grow w9 w' → K v' w') → PApp Tryz.prog 105 105 nv s w28 K := fun {s l cur K} hs hlen hc hk => by
      obtain ⟨ps, rfl, hps, hcells⟩ := SlX.cells (by omega) hs
      refine pappX el_ta (by omega) (qs := ps) hc (SlC.grow hcells g28) (fun q hq => ?_) g28.size (by simp at hlen; omega) (by omega) fun v' w' ho2 hf2 _ _ => hk v' w' ho2 (g28.fr hf2 fun i hi e => by have := (hc.lt e.symm).1; omega)
      obtain ⟨hq2, u, e, hu⟩ := hps q hq
      have := elx_oldT (T := fun b => w9.heap.size ≤ b) (out := nv) hu g28 (fun b hb => hb) fun b hb => (hc.lt hb).1
      rw [← e] at this
      exact this
    refine condD (fun hlt => ?_) fun hge => ?_
    · have hk01 : k = 0 ∨ k = 1 := by omega
      rcases hk01 with rfl | rfl
      · refine ⟨a, _, _, rfl, by omega, s1, rd g28 (i := 0) rfl, app h1 (by simp; omega) hown fun v' w' ho g => ⟨by unfold inR; omega, ⟨1, by omega, by omega, ho, g⟩, by first | omega | (dsimp only; omega)⟩⟩
      · refine ⟨a, _, _, rfl, by omega, s2, rd g28 (i := 1) rfl, app h2 (by rw [if_neg (by omega), if_pos rfl]; omega) hown fun v' w' ho g => ⟨by unfold inR; omega, ⟨2, by omega, by omega, ho, g⟩, by first | omega | (dsimp only; omega)⟩⟩
    · have hk2 : k = 2 := by omega
      subst hk2
      exact ⟨_, rfl, hown.slX, g28⟩
/-! ## The first zero of a mask -/
def nU (hit : Nat) : Int := IntKind.wrap .u64 (iXor .i64 (if IntKind.signed .i64 then -1 else IntKind.max .i64) (hit : Int))
def tzIx (x : Int) : Int := iShr .u64 (IntKind.wrap .u64 ((iAnd .u64 x (IntKind.wrap .u64 (0 - x))) * 285870213051353865)) 58
def fzOk (hit k : Nat) : Bool := hit.testBit k || !((List.range k).all fun j => hit.testBit j) || (!decide (nU hit = 0) && decide (0 ≤ tzIx (nU hit)) && decide (tzIx (nU hit) < 64) && tab64.getD (tzIx (nU hit)).toNat 0 == k)
theorem fzAll : ∀ hit, hit < 32 → ∀ k, k < 6 → fzOk hit k = true := by decide +kernel
theorem fz_c {hit k : Nat} (h32 : hit < 32) (hk : k < 6) (h0 : hit.testBit k = false) (h1 : ∀ j, j < k → hit.testBit j = true) {w : World} (hT : Tab w) : Calls Tryz.prog 79 #[.int .u64 (nU hit)] w (Ret w (.int .i64 (k : Int))) := by
  have hok := fzAll hit h32 k hk
  have hall : ((List.range k).all fun j => hit.testBit j) = true := List.all_eq_true.2 fun j hj => h1 j (List.mem_range.1 hj)
  rw [fzOk, h0, hall] at hok
  simp only [Bool.not_true, Bool.or_false, Bool.false_or, Bool.and_eq_true, Bool.not_eq_true', decide_eq_false_iff_not, decide_eq_true_eq, beq_iff_eq] at hok
  obtain ⟨⟨⟨k0, k1⟩, k2⟩, k3⟩ := hok
  refine f79_calls _ ?_
  have main : Calls Tryz.prog 111 #[.int .u64 (nU hit)] w (Ret w (.int .i64 (k : Int))) := by
    refine f111_calls _ ?_
    refine condD (fun e => absurd e k0) fun _ => ⟨by decide, ⟨k1, k2⟩, (k : Int), ?_, ?_⟩
    · have hlt : (tzIx (nU hit)).toNat < 64 := by clear k3; generalize tzIx (nU hit) = z at *; omega
      have hc := hT (tzIx (nU hit)).toNat hlt
      rw [k3, ← Nat.mul_one (tzIx (nU hit)).toNat] at hc
      exact hc
    · refine ⟨?_, Grow.refl w⟩
      rw [wrap_nat (by omega)]
  refine main.mono ?_
  rintro e w' ⟨rfl, hg⟩
  exact ⟨_, rfl, rfl, hg⟩
end Go.Proofs.YtmjpnfapjcfejaaGreatDoor

/- An argument that is a slice of groups: how it lies in memory. -/
import Derived.Test.YtkmmaijkidkoiaaWalG
import Derived.Deep.Slices
import Derived.Deep.Fields
import Derived.ChangeSame
import Derived.SizedLaws
namespace Go.Proofs.Ytkmmaijkidkoiaa
open Go Go.RowKit Go.ChangeShapes Go.WideShapes

section
variable {H : Type} {enc : TypeId × Value → H} {w : World} {base : Nat} {spare : Nat → Bool} {held : Bool}

theorem reachBytes_le : reachBytes ≤ 140737488355328 := by have := reachBytes_lt; omega
/-- All that is read of a datum fits the reach. -/
def Small (P : Program) (t : TypeId) (d : DataW H) : Prop := ∀ n ∈ d.weights P t, n ≤ reachBytes
theorem mem_weightsAll {P : Program} {e : TypeId} : ∀ {l : List (DataW H)} {d : DataW H}, d ∈ l → ∀ n ∈ d.weights P e, n ∈ DataW.weightsAll P e l
  | [], d, h, _, _ => by simp at h
  | x :: r, d, h, n, hn => by
    unfold DataW.weightsAll
    rcases List.mem_cons.1 h with rfl | h
    · simp [hn]
    · simp [mem_weightsAll h n hn]
theorem Small.elem {P : Program} {t e : TypeId} {es sp : List (DataW H)} (h : Small P t (.slice es sp)) (ht : P.underlying t = some (.slice e)) {d : DataW H} (hd : d ∈ es) : Small P e d := by
  intro n hn
  refine h n ?_
  simp [DataW.weights, ht, mem_weightsAll hd n hn]
theorem Small.size {P : Program} {t e : TypeId} {es sp : List (DataW H)} (h : Small P t (.slice es sp)) (ht : P.underlying t = some (.slice e)) : es.length * P.bytesOf e ≤ reachBytes := by
  have := h ((es.length + sp.length) * P.bytesOf e) (by simp [DataW.weights, ht])
  exact Nat.le_trans (Nat.mul_le_mul_right _ (by omega)) this
theorem Small.part {P : Program} {t : TypeId} {fs : Array Field} {ds : List (DataW H)} (h : Small P t (.agg ds)) (ht : P.underlying t = some (.struct fs)) {i : Nat} {f : Field} {d : DataW H} (hf : fs[i]? = some f) (hd : ds[i]? = some d) : Small P f.type d := by
  intro n hn
  refine h n ?_
  simp only [DataW.weights, ht]
  exact DataW.weights_mem_each (by simp [hf]) hd n hn
theorem Small.str {P : Program} {t : TypeId} {b : List UInt8} (h : Small (H := H) P t (.lit (.string b))) : b.length ≤ reachBytes := h _ (by simp [DataW.weights])

/-- A slice, element by element: Q is what is known of an element that is read. -/
theorem trod_rows {P : Program} {t e : TypeId} {fuel : Nat} {A : Option Addr} {n c : Nat} {x : DataW H × List MemPlace} (ht : P.underlying t = some (.slice e)) (h : DataW.trod enc P w base spare held fuel t [.slice A n c] = some x) (hs : Small P t x.1)
    (Q : List Value → Prop) (hQ : ∀ m cs y, DataW.trod enc P w base spare held m e cs = some y → Small P e y.1 → Q cs) (hC : 0 < P.cellsOf e) :
    ∃ css : List (List Value), css.length = n ∧ Rd w A css.flatten ∧ (∀ cs ∈ css, Q cs) ∧ n * P.bytesOf e ≤ reachBytes := by
  rcases Go.Deep.open_slice ht h with ⟨hcs, hx⟩ | ⟨a, len, cap, m, k, D, Pl, hcs, _, hl, hm, hmm, hx, hi⟩
  · simp at hcs
    obtain ⟨rfl, rfl, rfl⟩ := hcs
    exact ⟨[], rfl, .inl rfl, by simp, by simp⟩
  · simp only [List.cons.injEq, Value.slice.injEq, and_true] at hcs
    obtain ⟨rfl, rfl, rfl⟩ := hcs
    have hlm : n ≤ m := by rw [hmm]; split <;> omega
    have hsz : n * P.bytesOf e ≤ reachBytes := by
      rw [hx] at hs
      have := hs.size ht
      simpa using this
    have hel : ∀ i, i < n → Small P e (D i) := by
      intro i hi'
      rw [hx] at hs
      exact hs.elem ht (List.mem_map.2 ⟨i, by simpa using hi', rfl⟩)
    obtain ⟨f, hf⟩ := Go.Deep.choose_lt (n := n) (p := fun i cs => w.cells? base (a.add (i * P.cellsOf e)) (P.cellsOf e) = some cs ∧ Q cs) (fun i hi' => by
      obtain ⟨cs', h1, h2⟩ := hi i (by omega)
      exact ⟨cs', h1, hQ _ _ _ h2 (hel i hi')⟩)
    have hlen : ∀ i, i < n → (f i).length = P.cellsOf e := fun i hi' => (World.cells?_some (hf i hi').1).2.1
    refine ⟨(List.range n).map f, by simp, ?_, ?_, hsz⟩
    · by_cases h0 : n = 0
      · subst h0
        exact .inl rfl
      · obtain ⟨b, o, sp⟩ := a
        have hc0 := (World.cells?_some (hf 0 (by omega)).1).2.2 0 hC
        have hfl := hlen 0 (by omega)
        have hsp : sp = none := by
          rw [List.getElem?_eq_getElem (by omega)] at hc0
          simpa [Addr.add] using World.cell?_spot hc0
        subst hsp
        have key : ∀ N, N ≤ n → (((List.range N).map f).flatten).length = N * P.cellsOf e ∧ ∀ j u, (((List.range N).map f).flatten)[j]? = some u → w.cell? ⟨b, o + j, none⟩ = some u := by
          intro N
          induction N with
          | zero => intro _; simp
          | succ N ih =>
            intro hN
            obtain ⟨i1, i2⟩ := ih (by omega)
            rw [List.range_succ, List.map_append, List.flatten_append]
            refine ⟨by simp only [List.length_append, i1]; simp [hlen N (by omega), Nat.succ_mul], fun j u hu => ?_⟩
            by_cases hj : j < N * P.cellsOf e
            · rw [List.getElem?_append_left (by omega)] at hu
              exact i2 j u hu
            · rw [List.getElem?_append_right (by omega), i1] at hu
              have hu' : (f N)[j - N * P.cellsOf e]? = some u := by simpa using hu
              have hjl : j - N * P.cellsOf e < P.cellsOf e := by
                have := (List.getElem?_eq_some_iff.1 hu').1
                rw [hlen N (by omega)] at this
                exact this
              have := (World.cells?_some (hf N (by omega)).1).2.2 _ hjl
              rw [hu', add_lit, add_lit] at this
              rw [show o + j = o + N * P.cellsOf e + (j - N * P.cellsOf e) by omega]
              exact this
        exact .inr ⟨b, o, rfl, (key n (Nat.le_refl _)).2⟩
    · intro cs hcs
      obtain ⟨i, hi', rfl⟩ := List.mem_map.1 hcs
      exact (hf i (by simpa using hi')).2

set_option maxRecDepth 100000 in
theorem ver_of_trod {fuel : Nat} {cs : List Value} {x : DataW H × List MemPlace} (h : DataW.trod enc Try.prog w base spare held fuel 55 cs = some x) (hs : Small Try.prog 55 x.1) :
    ∃ v : Ver, cs = v.cells ∧ v.key.size ≤ 140737488355328 ∧ v.val.size ≤ 140737488355328 := by
  obtain ⟨xs, n, _, hx, hlen, hxl, hg⟩ := DataW.trod_struct Try.underlying55 h
  rw [show Try.prog.cellsOf 55 = 8 by kernel_rfl] at hlen
  match cs, hlen with
  | [c0, c1, c2, c3, c4, c5, c6, c7], _ =>
  match xs, hxl with
  | [y0, y1, y2, y3, y4], _ =>
  have g0 := hg 0 _ rfl
  have g1 := hg 1 _ rfl
  have g2 := hg 2 _ rfl
  have g3 := hg 3 _ rfl
  have g4 := hg 4 _ rfl
  simp only [show Try.prog.cellsOf 9 = 1 by kernel_rfl, show Try.prog.cellsOf 51 = 3 by kernel_rfl, show Try.prog.cellsOf 53 = 2 by kernel_rfl, show Try.prog.cellsOf 4 = 1 by kernel_rfl, List.drop_zero, List.drop_succ_cons, List.take_succ_cons, List.take_zero, List.getElem?_cons_zero, List.getElem?_cons_succ] at g0 g1 g2 g3 g4
  obtain ⟨key, e0, hy0, _⟩ := DataW.trod_string Try.underlying9 g0
  obtain ⟨val, e3, hy3, _⟩ := DataW.trod_string Try.underlying9 g3
  obtain ⟨gone, e4, _⟩ := DataW.trod_bool Try.underlying4 g4
  obtain ⟨zs, n1, _, _, _, hzl, hz⟩ := DataW.trod_struct Try.underlying51 g1
  match zs, hzl with
  | [z0, z1, z2], _ =>
  have k0 := hz 0 _ rfl
  have k1 := hz 1 _ rfl
  have k2 := hz 2 _ rfl
  simp only [show Try.prog.cellsOf 3 = 1 by kernel_rfl, List.drop_zero, List.drop_succ_cons, List.take_succ_cons, List.take_zero, List.getElem?_cons_zero, List.getElem?_cons_succ] at k0 k1 k2
  obtain ⟨br, e1, _⟩ := DataW.trod_int Try.underlying3 k0
  obtain ⟨ep, e1', _⟩ := DataW.trod_int Try.underlying3 k1
  obtain ⟨sq, e1'', _⟩ := DataW.trod_int Try.underlying3 k2
  obtain ⟨us, n2, _, _, _, hul, hu⟩ := DataW.trod_struct Try.underlying53 g2
  match us, hul with
  | [u0, u1], _ =>
  have l0 := hu 0 _ rfl
  have l1 := hu 1 _ rfl
  simp only [show Try.prog.cellsOf 3 = 1 by kernel_rfl, List.drop_zero, List.drop_succ_cons, List.take_succ_cons, List.take_zero, List.getElem?_cons_zero, List.getElem?_cons_succ] at l0 l1
  obtain ⟨fr, e2, _⟩ := DataW.trod_int Try.underlying3 l0
  obtain ⟨too, e2', _⟩ := DataW.trod_int Try.underlying3 l1
  obtain rfl := (List.cons.inj e0).1
  obtain rfl := (List.cons.inj e1).1
  obtain rfl := (List.cons.inj e1').1
  obtain rfl := (List.cons.inj e1'').1
  obtain rfl := (List.cons.inj e2).1
  obtain rfl := (List.cons.inj e2').1
  obtain rfl := (List.cons.inj e3).1
  obtain rfl := (List.cons.inj e4).1
  have hr := reachBytes_le
  rw [hx] at hs
  have s0 : Small Try.prog 9 y0.1 := hs.part Try.underlying55 (i := 0) rfl rfl
  have s3 : Small Try.prog 9 y3.1 := hs.part Try.underlying55 (i := 3) rfl rfl
  rw [hy0] at s0
  rw [hy3] at s3
  have b0 := s0.str
  have b3 := s3.str
  simp only [Array.length_toList, ByteArray.size_data] at b0 b3
  exact ⟨⟨key, br, ep, sq, fr, too, val, gone⟩, rfl, by show key.size ≤ _; omega, by show val.size ≤ _; omega⟩

set_option maxRecDepth 100000 in
theorem grp_of_trod {fuel : Nat} {cs : List Value} {x : DataW H × List MemPlace} (h : DataW.trod enc Try.prog w base spare held fuel 32 cs = some x) (hs : Small Try.prog 32 x.1) :
    ∃ g : Gr, cs = g.cells ∧ g.Ok w := by
  obtain ⟨xs, n, _, hx, hlen, hxl, hg⟩ := DataW.trod_struct Try.underlying32 h
  rw [show Try.prog.cellsOf 32 = 2 by kernel_rfl] at hlen
  match cs, hlen with
  | [c0, c1], _ =>
  match xs, hxl with
  | [y0, y1], _ =>
  have g0 := hg 0 _ rfl
  have g1 := hg 1 _ rfl
  simp only [show Try.prog.cellsOf 3 = 1 by kernel_rfl, show Try.prog.cellsOf 30 = 1 by kernel_rfl, List.drop_zero, List.drop_succ_cons, List.take_succ_cons, List.take_zero, List.getElem?_cons_zero, List.getElem?_cons_succ] at g0 g1
  obtain ⟨ep, e0, _, hw⟩ := DataW.trod_int Try.underlying3 g0
  obtain rfl := (List.cons.inj e0).1
  rw [hx] at hs
  have s1 : Small Try.prog 30 y1.1 := hs.part Try.underlying32 (i := 1) rfl rfl
  obtain ⟨A, m, c, rfl⟩ : ∃ A m c, c1 = .slice A m c := by
    rcases Go.Deep.open_slice Try.underlying30 g1 with ⟨hcs, _⟩ | ⟨a, len, cap, _, _, _, _, hcs, _⟩
    · exact ⟨_, _, _, (List.cons.inj hcs).1⟩
    · exact ⟨_, _, _, (List.cons.inj hcs).1⟩
  obtain ⟨css, h1, h2, h3, h4⟩ := trod_rows Try.underlying30 g1 s1 (fun cs => ∃ v : Ver, cs = v.cells ∧ v.key.size ≤ 140737488355328 ∧ v.val.size ≤ 140737488355328) (fun m cs y hy hs => ver_of_trod hy hs) (by rw [show Try.prog.cellsOf 55 = 8 by kernel_rfl]; omega)
  obtain ⟨vs, hvs, hvl⟩ : ∃ vs : List Ver, css = vs.map Ver.cells ∧ ∀ v ∈ vs, v.key.size ≤ 140737488355328 ∧ v.val.size ≤ 140737488355328 := by
    clear h1 h2
    induction css with
    | nil => exact ⟨[], rfl, by simp⟩
    | cons a css ih =>
      obtain ⟨v, hv, hv2⟩ := h3 a (by simp)
      obtain ⟨vs, i1, i2⟩ := ih (fun cs hcs => h3 cs (by simp [hcs]))
      exact ⟨v :: vs, by rw [hv, i1]; rfl, by intro u hu; rcases List.mem_cons.1 hu with rfl | hu; exact hv2; exact i2 u hu⟩
  subst hvs
  rw [← List.flatMap_def] at h2
  have hr := reachBytes_le
  have hb : Try.prog.bytesOf 55 = 80 := by kernel_rfl
  rw [hb] at h4
  have hwf : -9223372036854775808 ≤ ep ∧ ep ≤ 9223372036854775807 := by
    simp only [Lit.wf, Bool.and_eq_true, decide_eq_true_eq] at hw
    exact hw
  exact ⟨⟨ep, A, m, c, vs⟩, rfl, h2, by simpa using h1, by show m ≤ _; omega, hvl, hwf.1, hwf.2⟩

theorem open_groups {d : DataW H} {p : List MemPlace} {L : Option Addr} {n c : Nat} (h : DataW.Trod enc Try.prog w base spare held 22 (.slice L n c) d p) (hs : Small Try.prog 22 d) :
    ∃ gs : List Gr, Rd w L (gs.flatMap Gr.cells) ∧ gs.length = n ∧ n ≤ 140737488355328 ∧ ∀ g ∈ gs, g.Ok w := by
  obtain ⟨fuel, hf⟩ := h
  obtain ⟨css, h1, h2, h3, h4⟩ := trod_rows Try.underlying22 (by simpa [Value.cells] using hf) hs (fun cs => ∃ g : Gr, cs = g.cells ∧ g.Ok w) (fun m cs y hy hs => grp_of_trod hy hs) (by rw [show Try.prog.cellsOf 32 = 2 by kernel_rfl]; omega)
  obtain ⟨gs, hgs, hgl⟩ : ∃ gs : List Gr, css = gs.map Gr.cells ∧ ∀ g ∈ gs, g.Ok w := by
    clear h1 h2
    induction css with
    | nil => exact ⟨[], rfl, by simp⟩
    | cons a css ih =>
      obtain ⟨v, hv, hv2⟩ := h3 a (by simp)
      obtain ⟨vs, i1, i2⟩ := ih (fun cs hcs => h3 cs (by simp [hcs]))
      exact ⟨v :: vs, by rw [hv, i1]; rfl, by intro u hu; rcases List.mem_cons.1 hu with rfl | hu; exact hv2; exact i2 u hu⟩
  subst hgs
  rw [← List.flatMap_def] at h2
  have hr := reachBytes_le
  have hb : Try.prog.bytesOf 32 = 32 := by kernel_rfl
  rw [hb] at h4
  exact ⟨gs, h2, by simpa using h1, by omega, hgl⟩
end
end Go.Proofs.Ytkmmaijkidkoiaa

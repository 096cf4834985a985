/- acks: refuse, Note. -/
import Derived.Test.YtjaojihogmnjhaaGreatDoorKi
namespace Go.Proofs.YtjaojihogmnjhaaGreatDoor
open Go Go.V Go.RowKit
set_option linter.unusedVariables false
set_option linter.unusedSimpArgs false

theorem split_filter {q : Nat} : ∀ (l : List BD) (i : Nat), (∀ (p : Nat) (x : BD), l[p]? = some x → (x.1 < q ↔ p < i)) → i ≤ l.length → l.take i = l.filter (fun y => y.1 < q) ∧ l.drop i = l.filter (fun y => ¬ y.1 < q)
  | [], i, _, _ => by simp
  | y :: l, 0, h, _ => by
    have h0 : ¬ y.1 < q := fun e => by have := (h 0 y rfl).1 e; omega
    have h1 := split_filter (q := q) l 0 (fun p x hx => ⟨fun e => by have := (h (p + 1) x (by simpa using hx)).1 e; omega, fun e => by omega⟩) (Nat.zero_le _)
    constructor
    · rw [List.take_zero, List.filter_cons_of_neg (by simpa using h0), ← h1.1, List.take_zero]
    · rw [List.drop_zero, List.filter_cons_of_pos (by simpa using h0), ← h1.2, List.drop_zero]
  | y :: l, i + 1, h, hi => by
    have h0 : y.1 < q := (h 0 y rfl).2 (by omega)
    have h1 := split_filter (q := q) l i (fun p x hx => by have := h (p + 1) x (by simpa using hx); omega) (by simpa using hi)
    constructor
    · rw [List.take_succ_cons, List.filter_cons_of_pos (by simpa using h0), h1.1]
    · rw [List.drop_succ_cons, List.filter_cons_of_neg (by simpa using h0), h1.2]
def posB (l : List BD) (q : Nat) : Nat := (l.filter fun y => y.1 < q).length
def hasB (l : List BD) (q : Nat) : Bool := l.any fun y => y.1 = q
def insB (l : List BD) (x : BD) : List BD := l.filter (fun y => y.1 < x.1) ++ x :: l.filter (fun y => ¬ y.1 < x.1)
def refuseP (l : List BD) (q : Nat) (d : TT) : List BD := if hasB l q = true then l else (insB l (q, d, false)).drop (l.length + 1 - 8)
theorem hasB_iff {l : List BD} {q : Nat} : hasB l q = true ↔ ∃ x ∈ l, x.1 = q := by simp [hasB]
theorem bsearch_cb (l : List BD) (v : Value) (q : Nat) (w : World) (hsl : SlR w 3 v l.length (l.flatMap GB)) (hlen : l.length ≤ 1000) (hsort : l.Pairwise fun a b => a.1 < b.1) :
    Ca Tryz.prog 35 #[v, .int .u64 (q : Int), .func (.func 36) #[] #[]] w fun r w' => r = .tuple #[.int .i64 ((posB l q : Nat) : Int), .bool (hasB l q)] ∧ Keeps NoB w w' := by
  refine (bsearch_ca l v q w hsl hlen hsort).mono ?_
  rintro r w' ⟨⟨i, hi, hspec, rfl⟩, hk⟩
  refine ⟨?_, hk⟩
  obtain ⟨h1, h2⟩ := split_filter l i hspec hi
  have hp : posB l q = i := by unfold posB; rw [← h1, List.length_take, Nat.min_eq_left hi]
  have hh : decide (∃ x, l[i]? = some x ∧ x.1 = q) = hasB l q := by
    apply Bool.eq_iff_iff.2
    rw [decide_eq_true_iff, hasB_iff]
    constructor
    · rintro ⟨x, hx, e⟩
      exact ⟨x, List.mem_of_getElem? hx, e⟩
    · rintro ⟨x, hx, e⟩
      obtain ⟨p, hpx⟩ := List.getElem?_of_mem hx
      have hpi : ¬ p < i := fun h => by have := (hspec p x hpx).2 h; omega
      have hpl := (List.getElem?_eq_some_iff.1 hpx).1
      obtain ⟨y, hy⟩ : ∃ y, l[i]? = some y := ⟨l[i]'(by omega), by simp [show i < l.length by omega]⟩
      rcases Nat.lt_or_ge i p with h3 | h3
      · obtain ⟨g1, rfl⟩ := List.getElem?_eq_some_iff.1 hy
        obtain ⟨g2, rfl⟩ := List.getElem?_eq_some_iff.1 hpx
        have h4 := List.pairwise_iff_getElem.1 hsort i p g1 g2 h3
        have h5 : ¬ l[i].1 < q := fun h => by have := (hspec i _ hy).1 h; omega
        omega
      · have : p = i := by omega
        subst this
        exact ⟨x, hpx, e⟩
  rw [hp, hh]
theorem filter_pos {q : Nat} : ∀ (l : List BD), (l.Pairwise fun a b => a.1 < b.1) → ∀ (p : Nat) (x : BD), l[p]? = some x → (x.1 < q ↔ p < (l.filter fun y => y.1 < q).length)
  | [], _, p, x, h => by simp at h
  | y :: l, hs, 0, x, h => by
    simp at h
    subst h
    rw [List.pairwise_cons] at hs
    by_cases hy : y.1 < q
    · rw [List.filter_cons_of_pos (by simpa using hy)]; simp [hy]
    · rw [List.filter_cons_of_neg (by simpa using hy)]
      have : l.filter (fun y => decide (y.1 < q)) = [] := by
        rw [List.filter_eq_nil_iff]
        intro z hz
        have := hs.1 z hz
        simp; omega
      rw [this]; simp; omega
  | y :: l, hs, p + 1, x, h => by
    rw [List.pairwise_cons] at hs
    have hx : l[p]? = some x := by simpa using h
    have ih := filter_pos (q := q) l hs.2 p x hx
    have hyx := hs.1 x (List.mem_of_getElem? hx)
    by_cases hy : y.1 < q
    · rw [List.filter_cons_of_pos (by simpa using hy), List.length_cons]; omega
    · rw [List.filter_cons_of_neg (by simpa using hy)]
      have : l.filter (fun y => decide (y.1 < q)) = [] := by
        rw [List.filter_eq_nil_iff]
        intro z hz
        have := hs.1 z hz
        simp; omega
      rw [this]; simp; omega
theorem insB_sort {l : List BD} {x : BD} (hs : l.Pairwise fun a b => a.1 < b.1) (hn : ¬ hasB l x.1 = true) : (insB l x).Pairwise fun a b => a.1 < b.1 := by
  have h1 : ∀ y ∈ l, y.1 ≠ x.1 := fun y hy e => hn (hasB_iff.2 ⟨y, hy, e⟩)
  unfold insB
  rw [List.pairwise_append]
  refine ⟨hs.filter _, ?_, ?_⟩
  · rw [List.pairwise_cons]
    refine ⟨fun y hy => ?_, hs.filter _⟩
    obtain ⟨hy1, hy2⟩ := List.mem_filter.1 hy
    have := h1 y hy1
    simp at hy2
    omega
  · intro a ha b hb
    obtain ⟨ha1, ha2⟩ := List.mem_filter.1 ha
    simp at ha2
    rcases List.mem_cons.1 hb with rfl | hb
    · exact ha2
    · obtain ⟨hb1, hb2⟩ := List.mem_filter.1 hb
      simp at hb2
      omega
set_option maxRecDepth 100000 in
set_option maxHeartbeats 4000000 in
theorem refuse_ca {base : Nat} {d : ND} {w : World} (h : NoteAt w base d) (hbase : base ≤ w.heap.size) (s : SD) :
    Ca Tryz.prog 23 #[ptrN d, SdV s] w fun v w' => v = .tuple #[] ∧ ∃ v', NoteAt w' base ⟨d.nb, d.tb, v', { d.p with bad := refuseP d.p.bad s.2.1 s.2.2.2 }⟩ ∧ (∀ q, v'.ownBlock = some q → d.v.ownBlock = some q ∨ w.heap.size ≤ q) ∧ Keeps (nD d) w w' := by
  refine ca_of_body (args := [ptrN d, SdV s]) Tryz.func23 rfl (by kernel_rfl) ?_
  obtain ⟨nb, tb, dv, T, told, l⟩ := d
  have hcell : w.heap[nb]? = some (.cells #[.map (some tb), .int .u64 (told : Int), dv] NoteT (0, 0)) := h.cell
  have hown : OwnS w base BadT 3 dv l.length (l.flatMap GB) := h.bad
  have hsort : l.Pairwise fun a b => a.1 < b.1 := h.sort
  have hfew : l.length ≤ 8 := h.few
  show Wc _ _ _ _ _ _ (argEnv [.pointer (some ⟨nb, 0, none⟩), SdV s]) _
  apply wc_seq
  apply wc_region
  refine wr_box (v := .agg (GS s).toArray) rfl rfl ?_
  refine wr_name ?_
  intro w1 hw1
  obtain ⟨b1, hb1⟩ : ∃ b1, b1 = w.heap.size := ⟨_, rfl⟩
  have hk1 : Keeps NoB w w1 := by rw [hw1]; exact (Keeps.refl NoB w).alloc _
  have hc1 : w1.heap[b1]? = some (.cells #[.int .i64 s.1.1, S s.1.2, .int .u64 ((s.2.1 : Nat) : Int), .bool s.2.2.1, S s.2.2.2] 43 (0, 0)) := by rw [hw1, hb1]; exact heap_alloc_same _ _
  rw [← hb1]
  clear hw1
  have hn1 := hk1.heap hcell (fun h => h)
  have ho1 := hown.keep hk1 (fun _ _ h => h)
  have hk0 : ∀ {w'}, Keeps NoB w1.drew w' → Keeps NoB w1 w' := fun hk => (Keeps.refl NoB w1).drew.trans hk
  (repeat first | apply wr_end | apply wc_seq)
  refine wc_drawP (l := _) 12 _ (by kernel_rfl) (by kernel_rfl) rfl (by kernel_rfl) (by kernel_rfl) (by decide) ?_
  apply chP_pure
  focus
    intro xx w' hk hF
    apply wr_move; exact rfl; with_reducible (conv => enter [6, 3]; whnf)
    apply wr_nil
    exact ⟨rfl, Keeps.refl _ _⟩
  focus (intro xx yy h; rfl)
  focus kernel_rfl
  apply chP_pure
  focus
    intro xx w' hk hF
    refine wr_nilCheck rfl rfl ?_
    apply wr_nil
    exact ⟨rfl, Keeps.refl _ _⟩
  focus (intro xx yy h; rfl)
  focus kernel_rfl
  apply chP_pure
  focus
    intro xx w' hk hF
    refine wr_fieldAddr rfl rfl ?_
    apply wr_nil
    exact ⟨rfl, Keeps.refl _ _⟩
  focus (intro xx yy h; rfl)
  focus kernel_rfl
  apply chP_pure
  focus
    intro xx w' hk hF
    refine wr_load (v := dv) rfl rfl rfl ((hk0 hk).heap hn1 (fun h => h)) rfl ?_
    apply wr_nil
    exact ⟨rfl, Keeps.refl _ _⟩
  focus (intro xx yy h; rfl)
  focus kernel_rfl
  apply chP_pure
  focus
    intro xx w' hk hF
    refine wr_fieldAddr rfl rfl ?_
    apply wr_nil
    exact ⟨rfl, Keeps.refl _ _⟩
  focus (intro xx yy h; rfl)
  focus kernel_rfl
  apply chP_pure
  focus
    intro xx w' hk hF
    refine wr_load (v := .int .u64 (s.2.1 : Int)) rfl rfl rfl ((hk0 hk).heap hc1 (fun h => h)) rfl ?_
    apply wr_nil
    exact ⟨rfl, Keeps.refl _ _⟩
  focus (intro xx yy h; rfl)
  focus kernel_rfl
  apply chP_pure
  focus
    intro xx w' hk hF
    refine wr_call (vs := [dv, .int .u64 (s.2.1 : Int), .func (.func 36) #[] #[]]) rfl (bsearch_cb l dv s.2.1 w' ((ho1.keep (hk0 hk) (fun _ _ h => h)).slR) (by omega) hsort) rfl ?_
    rintro v w'' ⟨rfl, hkc⟩
    apply wr_nil
    exact ⟨rfl, hkc⟩
  focus (intro xx yy h; rfl)
  focus kernel_rfl
  apply chP_pure
  focus
    intro xx w' hk hF
    apply wr_move; exact rfl; with_reducible (conv => enter [6, 3]; whnf)
    apply wr_nil
    exact ⟨rfl, Keeps.refl _ _⟩
  focus (intro xx yy h; rfl)
  focus kernel_rfl
  apply chP_pure
  focus
    intro xx w' hk hF
    apply wr_extract; (iterate 3 exact rfl); with_reducible (conv => enter [6, 3]; whnf)
    apply wr_nil
    exact ⟨rfl, Keeps.refl _ _⟩
  focus (intro xx yy h; rfl)
  focus kernel_rfl
  apply chP_pure
  focus
    intro xx w' hk hF
    apply wr_extract; (iterate 3 exact rfl); with_reducible (conv => enter [6, 3]; whnf)
    apply wr_nil
    exact ⟨rfl, Keeps.refl _ _⟩
  focus (intro xx yy h; rfl)
  focus kernel_rfl
  apply chP_pure
  focus
    intro xx w' hk hF
    apply wr_assign; exact rfl; with_reducible (conv => enter [6, 3]; whnf)
    apply wr_nil
    exact ⟨rfl, Keeps.refl _ _⟩
  focus (intro xx yy h; rfl)
  focus kernel_rfl
  apply chP_pure
  focus
    intro xx w' hk hF
    apply wr_assign; exact rfl; with_reducible (conv => enter [6, 3]; whnf)
    apply wr_nil
    exact ⟨rfl, Keeps.refl _ _⟩
  focus (intro xx yy h; rfl)
  focus kernel_rfl
  refine chP_nil ?_
  intro xx w2 hk2' hF
  have hk2 := hk1.trans (hk0 hk2')
  have hn2 := hk2.heap hcell (fun h => h)
  have hc2 := (hk0 hk2').heap hc1 (fun h => h)
  have ho2 := hown.keep hk2 (fun _ _ h => h)
  clear hF hk2'
  by_cases hh : hasB l s.2.1 = true
  · rw [hh]
    (repeat first | (apply wr_move; exact rfl; with_reducible (conv => enter [6, 3]; whnf)) | apply wr_end | apply wc_seq | apply wc_region | (apply wc_true; exact rfl) | (apply wc_ret; try simp only [thenE, inBlockE, bodyQ]))
    try unfold bodyQ
    have hr : refuseP l s.2.1 s.2.2.2 = l := by unfold refuseP; rw [if_pos hh]
    exact leave0 rfl ⟨rfl, dv, by rw [hr]; exact h.keep hk2 (fun _ _ h => h), fun q hq => .inl hq, hk2.upD⟩
  have hh' : hasB l s.2.1 = false := by simpa using hh
  rw [hh']
  have hpl : posB l s.2.1 ≤ l.length := List.length_filter_le _ _
  have hsz2 := hk2.size
  have hkz : ∀ {w'}, Keeps NoB w2.drew w' → Keeps NoB w2 w' := fun hk => (Keeps.refl NoB w2).drew.trans hk
  have hne1 : ∀ q, dv.ownBlock = some q → q ≠ nb := fun q hq e => by
    obtain ⟨_, _, cur, hcur⟩ := ho2.lt q hq
    exact ty_ne hn2 hcur note_bad e.symm
  (repeat first | (apply wr_move; exact rfl; with_reducible (conv => enter [6, 3]; whnf)) | apply wr_end | apply wc_seq | apply wc_region | apply wc_skip | (apply wc_false; exact rfl))
  refine B.wc_drawQ (fun k => dv.ownBlock = some k) (some 12) (l := _) 15 _ (by kernel_rfl) (by kernel_rfl) rfl (by kernel_rfl) (by kernel_rfl) (by decide) ?_
  apply B.chP_pure
  focus
    intro xx w' hk hF
    apply wr_move; exact rfl; with_reducible (conv => enter [6, 3]; whnf)
    apply wr_nil
    exact ⟨rfl, Keeps.refl _ _⟩
  focus (intro xx yy h; rfl)
  focus kernel_rfl
  apply B.chP_pure
  focus
    intro xx w' hk hF
    apply wr_move; exact rfl; with_reducible (conv => enter [6, 3]; whnf)
    apply wr_nil
    exact ⟨rfl, Keeps.refl _ _⟩
  focus (intro xx yy h; rfl)
  focus kernel_rfl
  apply B.chP_pure
  focus
    intro xx w' hk hF
    refine wr_nilCheck rfl rfl ?_
    apply wr_nil
    exact ⟨rfl, Keeps.refl _ _⟩
  focus (intro xx yy h; rfl)
  focus kernel_rfl
  apply B.chP_pure
  focus
    intro xx w' hk hF
    refine wr_fieldAddr rfl rfl ?_
    apply wr_nil
    exact ⟨rfl, Keeps.refl _ _⟩
  focus (intro xx yy h; rfl)
  focus kernel_rfl
  apply B.chP_pure
  focus
    intro xx w' hk hF
    have hk1 := hkz (B.toNo hk (by kernel_rfl))
    refine wr_load (v := dv) rfl rfl rfl (hk1.heap hn2 (fun h => h)) rfl ?_
    apply wr_nil
    exact ⟨rfl, Keeps.refl _ _⟩
  focus (intro xx yy h; rfl)
  focus kernel_rfl
  apply B.chP_pure
  focus
    intro xx w' hk hF
    apply wr_move; exact rfl; with_reducible (conv => enter [6, 3]; whnf)
    apply wr_nil
    exact ⟨rfl, Keeps.refl _ _⟩
  focus (intro xx yy h; rfl)
  focus kernel_rfl
  apply B.chP_pure
  focus
    intro xx w' hk hF
    refine wr_fieldAddr rfl rfl ?_
    apply wr_nil
    exact ⟨rfl, Keeps.refl _ _⟩
  focus (intro xx yy h; rfl)
  focus kernel_rfl
  apply B.chP_pure
  focus
    intro xx w' hk hF
    have hk1 := hkz (B.toNo hk (by kernel_rfl))
    refine wr_load (v := .int .u64 (s.2.1 : Int)) rfl rfl rfl (hk1.heap hc2 (fun h => h)) rfl ?_
    apply wr_nil
    exact ⟨rfl, Keeps.refl _ _⟩
  focus (intro xx yy h; rfl)
  focus kernel_rfl
  apply B.chP_pure
  focus
    intro xx w' hk hF
    refine wr_fieldAddr rfl rfl ?_
    apply wr_nil
    exact ⟨rfl, Keeps.refl _ _⟩
  focus (intro xx yy h; rfl)
  focus kernel_rfl
  apply B.chP_pure
  focus
    intro xx w' hk hF
    have hk1 := hkz (B.toNo hk (by kernel_rfl))
    refine wr_load (v := S s.2.2.2) rfl rfl rfl (hk1.heap hc2 (fun h => h)) rfl ?_
    apply wr_nil
    exact ⟨rfl, Keeps.refl _ _⟩
  focus (intro xx yy h; rfl)
  focus kernel_rfl
  apply B.chP_pure
  focus
    intro xx w' hk hF
    refine wr_build (ps := [(0, .int .u64 (s.2.1 : Int)), (1, S s.2.2.2)]) (cs := GB (s.2.1, s.2.2.2, false)) rfl rfl rfl rfl ?_
    apply wr_nil
    exact ⟨rfl, Keeps.refl _ _⟩
  focus (intro xx yy h; rfl)
  focus kernel_rfl
  refine B.chP_fact (fun y => .slice (some ⟨blkOf y, 0, none⟩) 1 1) (fun y w' => w'.heap[blkOf y]? = some (.cells (GB (s.2.1, s.2.2.2, false)).toArray BadT (0, 0)) ∧ w2.heap.size ≤ blkOf y) (fun y w' w'' h k => ⟨k.heap h.1 (fun e => ?_), h.2⟩) ?_ ?_
  focus
    have e' : dv.ownBlock = some (blkOf y) := e
    have := (ho2.lt _ e').2.1
    have := h.2
    omega
  focus
    intro xx w' hk hF
    have hk1 := hkz (B.toNo hk (by kernel_rfl))
    refine wr_buildSlice (vs := [.agg (GB (s.2.1, s.2.2.2, false)).toArray]) rfl rfl (by intro v hv; simp at hv; subst hv; rfl) rfl (by decide) (by decide) (by decide) ?_
    apply wr_nil
    exact ⟨.pointer (some ⟨w'.heap.size, 0, none⟩), rfl, ⟨(heap_alloc_same _ _).trans (by rfl), hk1.size⟩, (Keeps.refl _ _).alloc _⟩
  refine B.chP_fact (fun y => y) (fun y w' => OwnS w' base BadT 3 y (l.length + 1) ((l.take (posB l s.2.1) ++ (s.2.1, s.2.2.2, false) :: l.drop (posB l s.2.1)).flatMap GB) ∧ ∀ q, y.ownBlock = some q → dv.ownBlock = some q ∨ w2.heap.size ≤ q) (fun y w' w'' h k => ⟨h.1.keep k (fun _ _ h => h), h.2⟩) ?_ ?_
  focus
    intro xx w' hk hF
    have hk1 := hkz (B.toNo hk (by kernel_rfl))
    have hf11 : w'.heap[blkOf (xx 11)]? = some (.cells (GB (s.2.1, s.2.2.2, false)).toArray BadT (0, 0)) ∧ w2.heap.size ≤ blkOf (xx 11) := hF 11 (by kernel_rfl)
    have hs1 := hk1.size
    refine wr_call (vs := [dv, .int .i64 ((posB l s.2.1 : Nat) : Int), .slice (some ⟨blkOf (xx 11), 0, none⟩) 1 1]) rfl (insert_ca base l dv (posB l s.2.1) (s.2.1, s.2.2.2, false) (blkOf (xx 11)) w' (ho2.keep hk1 (fun _ _ h => h)) hpl (by omega) hf11.1 (fun e => by
      have := (ho2.lt _ e).2.1
      have := hf11.2
      omega) (by omega)) rfl ?_
    rintro r w'' ⟨hor, hkr, hbr⟩
    apply wr_nil
    refine ⟨r, rfl, ⟨hor, fun q hq => ?_⟩, hkr⟩
    rcases hbr with hbr | ⟨k, hbr, hk9⟩
    · exact .inl (by rw [← hbr]; exact hq)
    · rw [hbr] at hq
      cases hq
      exact .inr (by omega)
  apply B.chP_pure
  focus
    intro xx w' hk hF
    refine wr_nilCheck rfl rfl ?_
    apply wr_nil
    exact ⟨rfl, Keeps.refl _ _⟩
  focus (intro xx yy h; rfl)
  focus kernel_rfl
  apply B.chP_pure
  focus
    intro xx w' hk hF
    refine wr_fieldAddr rfl rfl ?_
    apply wr_nil
    exact ⟨rfl, Keeps.refl _ _⟩
  focus (intro xx yy h; rfl)
  focus kernel_rfl
  refine B.chP_nil ?_
  intro xx w3 hk3' hF
  have hk3 : Keeps (fun k => dv.ownBlock = some k) w2 w3 := (Keeps.refl (fun k => dv.ownBlock = some k) w2).drew.trans hk3'
  obtain ⟨ho3, hb3⟩ : OwnS w3 base BadT 3 (xx 12) (l.length + 1) ((l.take (posB l s.2.1) ++ (s.2.1, s.2.2.2, false) :: l.drop (posB l s.2.1)).flatMap GB) ∧ ∀ q, (xx 12).ownBlock = some q → dv.ownBlock = some q ∨ w2.heap.size ≤ q := hF 12 (by decide)
  have hn3 := hk3.heap hn2 (fun e => hne1 _ e rfl)
  clear hF
  refine wr_store (v := xx 12) rfl rfl rfl ho3.one hn3 rfl ?_
  obtain ⟨r1, hr1⟩ : ∃ r1, r1 = xx 12 := ⟨_, rfl⟩
  rw [← hr1] at ho3 hb3 ⊢
  refine wr_name ?_
  intro w4 hw4
  have hk4 : Keeps (· = nb) w3 w4 := by rw [hw4]; exact (Keeps.refl _ w3).put _ (fun _ => rfl)
  have hn4 : w4.heap[nb]? = some (.cells #[.map (some tb), .int .u64 (told : Int), r1] NoteT (0, 0)) := by rw [hw4]; exact World.putObj_heap_same (lt_of_heap hn3)
  clear hw4
  have hlnb := lt_of_heap hn2
  have ho4 := ho3.keep hk4 (fun q hq e => by
    subst e
    obtain ⟨_, _, cur, hcur⟩ := ho3.lt _ hq
    exact ty_ne hn3 hcur note_bad rfl)
  have hi1 : l.take (posB l s.2.1) = l.filter (fun y => y.1 < s.2.1) ∧ l.drop (posB l s.2.1) = l.filter (fun y => ¬ y.1 < s.2.1) := by
    refine split_filter l _ (fun p x hx => ?_) hpl
    exact filter_pos l hsort p x hx
  have hins : l.take (posB l s.2.1) ++ (s.2.1, s.2.2.2, false) :: l.drop (posB l s.2.1) = insB l (s.2.1, s.2.2.2, false) := by rw [hi1.1, hi1.2]; rfl
  rw [hins] at ho4
  clear hr1
  obtain ⟨a, c, rfl⟩ : ∃ a c, r1 = .slice a (l.length + 1) c := by
    rcases ho4.2 with ⟨rfl, h0⟩ | ⟨g, o, cap, cur, rfl, _⟩
    · omega
    · exact ⟨_, _, rfl⟩
  have hk0 : ∀ {w'}, Keeps NoB w4.drew w' → Keeps NoB w4 w' := fun hk => (Keeps.refl NoB w4).drew.trans hk
  have hcap : l.length + 1 ≤ c := by
    rcases ho4.2 with ⟨h0, h1⟩ | ⟨g, o, cap, cur, h0, _, _, h1, _⟩
    · omega
    · cases h0; exact h1
  (repeat first | apply wr_end)
  refine wc_drawP (l := _) 15 _ (by kernel_rfl) (by kernel_rfl) rfl (by kernel_rfl) (by kernel_rfl) (by decide) ?_
  apply chP_pure
  focus
    intro xx w' hk hF
    apply wr_move; exact rfl; with_reducible (conv => enter [6, 3]; whnf)
    apply wr_nil
    exact ⟨rfl, Keeps.refl _ _⟩
  focus (intro xx yy h; rfl)
  focus kernel_rfl
  apply chP_pure
  focus
    intro xx w' hk hF
    apply wr_move; exact rfl; with_reducible (conv => enter [6, 3]; whnf)
    apply wr_nil
    exact ⟨rfl, Keeps.refl _ _⟩
  focus (intro xx yy h; rfl)
  focus kernel_rfl
  apply chP_pure
  focus
    intro xx w' hk hF
    refine wr_nilCheck rfl rfl ?_
    apply wr_nil
    exact ⟨rfl, Keeps.refl _ _⟩
  focus (intro xx yy h; rfl)
  focus kernel_rfl
  apply chP_pure
  focus
    intro xx w' hk hF
    refine wr_fieldAddr rfl rfl ?_
    apply wr_nil
    exact ⟨rfl, Keeps.refl _ _⟩
  focus (intro xx yy h; rfl)
  focus kernel_rfl
  apply chP_pure
  focus
    intro xx w' hk hF
    refine wr_load (v := .slice a (l.length + 1) c) rfl rfl rfl ((hk0 hk).heap hn4 (fun h => h)) rfl ?_
    apply wr_nil
    exact ⟨rfl, Keeps.refl _ _⟩
  focus (intro xx yy h; rfl)
  focus kernel_rfl
  apply chP_pure
  focus
    intro xx w' hk hF
    apply wr_move; exact rfl; with_reducible (conv => enter [6, 3]; whnf)
    apply wr_nil
    exact ⟨rfl, Keeps.refl _ _⟩
  focus (intro xx yy h; rfl)
  focus kernel_rfl
  apply chP_pure
  focus
    intro xx w' hk hF
    refine wr_nilCheck rfl rfl ?_
    apply wr_nil
    exact ⟨rfl, Keeps.refl _ _⟩
  focus (intro xx yy h; rfl)
  focus kernel_rfl
  apply chP_pure
  focus
    intro xx w' hk hF
    refine wr_fieldAddr rfl rfl ?_
    apply wr_nil
    exact ⟨rfl, Keeps.refl _ _⟩
  focus (intro xx yy h; rfl)
  focus kernel_rfl
  apply chP_pure
  focus
    intro xx w' hk hF
    refine wr_load (v := .slice a (l.length + 1) c) rfl rfl rfl ((hk0 hk).heap hn4 (fun h => h)) rfl ?_
    apply wr_nil
    exact ⟨rfl, Keeps.refl _ _⟩
  focus (intro xx yy h; rfl)
  focus kernel_rfl
  apply chP_pure
  focus
    intro xx w' hk hF
    refine wr_len_slice rfl rfl ?_
    apply wr_nil
    exact ⟨rfl, Keeps.refl _ _⟩
  focus (intro xx yy h; rfl)
  focus kernel_rfl
  apply chP_pure
  focus
    intro xx w' hk hF
    refine wr_sub (c := ((l.length + 1 : Nat) : Int) - 8) rfl rfl rfl (w_i64 (by omega)) ?_
    apply wr_nil
    exact ⟨rfl, Keeps.refl _ _⟩
  focus (intro xx yy h; rfl)
  focus kernel_rfl
  apply chP_pure
  focus
    intro xx w' hk hF
    refine wr_max (c := ((l.length + 1 - 8 : Nat) : Int)) rfl rfl rfl (by split <;> omega) ?_
    apply wr_nil
    exact ⟨rfl, Keeps.refl _ _⟩
  focus (intro xx yy h; rfl)
  focus kernel_rfl
  apply chP_pure
  focus
    intro xx w' hk hF
    refine wr_sl_slice (i := l.length + 1 - 8) (j := l.length + 1) rfl rfl (.inl ⟨rfl, rfl⟩) (.inr ⟨_, rfl, by omega⟩) ?_
    apply wr_nil
    exact ⟨rfl, Keeps.refl _ _⟩
  focus (intro xx yy h; rfl)
  focus kernel_rfl
  apply chP_pure
  focus
    intro xx w' hk hF
    refine wr_nilCheck rfl rfl ?_
    apply wr_nil
    exact ⟨rfl, Keeps.refl _ _⟩
  focus (intro xx yy h; rfl)
  focus kernel_rfl
  apply chP_pure
  focus
    intro xx w' hk hF
    refine wr_fieldAddr rfl rfl ?_
    apply wr_nil
    exact ⟨rfl, Keeps.refl _ _⟩
  focus (intro xx yy h; rfl)
  focus kernel_rfl
  refine chP_nil ?_
  intro xx w5 hk5' hF
  have hk5 := hk0 hk5'
  have hn5 := hk5.heap hn4 (fun h => h)
  have ho5 := (ho4.keep hk5 (fun _ _ h => h)).drop (show l.length + 1 - 8 ≤ l.length + 1 by omega)
  revert ho5
  generalize hr2 : Value.slice (if c = l.length + 1 - 8 then a else a.map (·.add ((l.length + 1 - 8) * 3))) (l.length + 1 - (l.length + 1 - 8)) (c - (l.length + 1 - 8)) = r2
  intro ho5
  refine wr_store (v := r2) rfl rfl rfl ho5.one hn5 rfl ?_
  refine wr_name ?_
  intro w6 hw6
  have hk6 : Keeps (· = nb) w5 w6 := by rw [hw6]; exact (Keeps.refl _ w5).put _ (fun _ => rfl)
  have hn6 : w6.heap[nb]? = some (.cells #[.map (some tb), .int .u64 (told : Int), r2] NoteT (0, 0)) := by rw [hw6]; exact World.putObj_heap_same (lt_of_heap hn5)
  clear hw6
  have ho6 := ho5.keep hk6 (fun q hq e => by
    subst e
    obtain ⟨_, _, cur, hcur⟩ := ho5.lt _ hq
    exact ty_ne hn5 hcur note_bad rfl)
  have hr2b : ∀ q, r2.ownBlock = some q → dv.ownBlock = some q ∨ w.heap.size ≤ q := fun q hq => by
    have h7 : (Value.slice a (l.length + 1) c).ownBlock = some q := by
      rw [← hr2] at hq
      cases a with
      | none => split at hq <;> simp [Value.ownBlock] at hq
      | some a =>
        have addb : ∀ (a : Addr) n, (a.add n).block = a.block := fun a n => by unfold Addr.add; split <;> rfl
        split at hq <;> simpa [Value.ownBlock, addb] using hq
    rcases hb3 q h7 with h8 | h8
    · exact .inl h8
    · exact .inr (by omega)
  have hrp : refuseP l s.2.1 s.2.2.2 = (insB l (s.2.1, s.2.2.2, false)).drop (l.length + 1 - 8) := by unfold refuseP; rw [if_neg hh]
  have hil : (insB l (s.2.1, s.2.2.2, false)).length = l.length + 1 := by
    rw [← hins, List.length_append, List.length_cons, List.length_take, List.length_drop]; omega
  obtain ⟨M, hM, hT⟩ := h.tk
  have hkw : Keeps (nD ⟨nb, tb, dv, T, told, l⟩) w w6 := by
    refine hk2.upD.trans ((hk3.mono fun q _ e => .inr (.inr e)).trans ((hk4.mono fun q _ e => .inl e).trans (hk5.upD.trans (hk6.mono fun q _ e => .inl e))))
  have hMk : MapAt w6 (encI .i64) tb M := by
    have h1 := hM.keep hk2 (fun h => h)
    have h2 := h1.keep hk3 (fun e => by
      obtain ⟨_, _, cur, hcur⟩ := ho2.lt _ e
      exact map_cells' h1 hcur rfl)
    have h3 := h2.keep hk4 (fun e => map_cells' h2 hn3 e.symm)
    have h5 := h3.keep hk5 (fun h => h)
    exact h5.keep hk6 (fun e => map_cells' h5 hn5 e.symm)
  (repeat first | (apply wr_nil; try simp only [thenE, inBlockE, bodyQ]))
  try unfold bodyQ
  refine leave0 rfl ⟨rfl, r2, ⟨hn6, ⟨M, hMk, hT⟩, ?_, ?_, ?_⟩, fun q hq => by have h9 := hr2b q hq; rw [hb1]; exact h9, hkw⟩
  · dsimp only
    rw [hrp, List.length_drop, hil, (flat_take GB_len _ _ (by rw [hil]; omega)).2]
    exact ho6
  · dsimp only
    rw [hrp]
    exact (insB_sort hsort hh).sublist (List.drop_sublist _ _)
  · dsimp only
    rw [hrp, List.length_drop, hil]
    omega
end Go.Proofs.YtjaojihogmnjhaaGreatDoor

/- wire.Parse: what it does. -/
import Derived.Test.YthlbgeonobicbaaDoorWg
namespace Go.Proofs.YthlbgeonobicbaaDoor
open Go Go.V Go.RowKit
set_option linter.unusedVariables false
set_option linter.unusedSimpArgs false

theorem Glo.lts {w : World} {p q : Addr} (h : Glo w p q) : 2 ≤ w.heap.size ∧ p.block < w.heap.size ∧ q.block < w.heap.size := by
  obtain ⟨⟨t0, r0, h0⟩, ⟨t1, r1, h1⟩, ⟨_, _, hp⟩, ⟨_, _, hq⟩, _⟩ := h
  exact ⟨lt_of_heap h1, lt_of_heap hp, lt_of_heap hq⟩
theorem Glo.keep {w w' : World} {p q : Addr} {D : Nat → Prop} (h : Glo w p q) (k : Keeps D w w') (hd : ∀ i, i < w.heap.size → ¬ D i) : Glo w' p q := by
  obtain ⟨l1, l2, l3⟩ := h.lts
  obtain ⟨⟨t0, r0, h0⟩, ⟨t1, r1, h1⟩, ⟨_, _, hp⟩, ⟨_, _, hq⟩, hne⟩ := h
  exact ⟨⟨_, _, k.heap h0 (hd _ (lt_of_heap h0))⟩, ⟨_, _, k.heap h1 (hd _ (lt_of_heap h1))⟩, ⟨_, _, k.heap hp (hd _ l2)⟩, ⟨_, _, k.heap hq (hd _ l3)⟩, hne⟩
theorem parseF_len : ∀ (n : Nat) (s : List UInt8) (l : List WF), s.length ≤ n → parseF s = some l → l.length ≤ s.length
  | 0, s, l, hn, h => by
    have : s = [] := List.eq_nil_of_length_eq_zero (by omega)
    subst this
    rw [parseF_nil] at h; cases h; exact Nat.le_refl _
  | n + 1, s, l, hn, h => by
    by_cases hs : s = []
    · subst hs; rw [parseF_nil] at h; cases h; exact Nat.le_refl _
    · cases hT : takeF s with
      | ok f r =>
        rw [parseF_ok hs hT] at h
        have hlt := takeF_lt hT
        cases hp : parseF r with
        | none => rw [hp] at h; cases h
        | some l' =>
          rw [hp] at h; simp at h; subst h
          have := parseF_len n r l' (by omega) hp
          simp; omega
      | short => rw [parseF_no hs (.inl hT)] at h; cases h
      | wrong => rw [parseF_no hs (.inr hT)] at h; cases h
theorem takeF_s {s : List UInt8} {n k : Int} {m : Nat} {t r : List UInt8} (h : takeF s = .ok ⟨n, k, m, t⟩ r) : t.length ≤ s.length := by
  unfold takeF at h
  cases hrv : readVarint s with
  | none => rw [hrv] at h; cases h
  | some nk =>
    obtain ⟨tag, n⟩ := nk
    rw [hrv] at h
    dsimp only at h
    split at h
    · cases h
    · split at h
      · split at h
        · cases h
        · simp only [TR.ok.injEq, WF.mk.injEq] at h
          rw [← h.1.2.2.2]; simp
      · split at h
        · split at h
          · cases h
          · split at h
            · cases h
            · simp only [TR.ok.injEq, WF.mk.injEq] at h
              rw [← h.1.2.2.2]; simp only [List.length_take, List.length_drop]; omega
        · split at h
          · split at h
            · cases h
            · simp only [TR.ok.injEq, WF.mk.injEq] at h
              rw [← h.1.2.2.2]; simp only [List.length_take, List.length_drop]; omega
          · split at h
            · split at h
              · cases h
              · simp only [TR.ok.injEq, WF.mk.injEq] at h
                rw [← h.1.2.2.2]; simp only [List.length_take, List.length_drop]; omega
            · cases h
/-- How many fields stand in front. -/
def cntF (s : List UInt8) : Nat := if s = [] then 0 else
  match h : takeF s with
  | .ok f r => cntF r + 1
  | _ => 0
termination_by s.length
decreasing_by exact takeF_lt h
theorem cntF_ok {s : List UInt8} {f : WF} {r : List UInt8} (hs : s ≠ []) (h : takeF s = .ok f r) : cntF s = cntF r + 1 := by
  rw [cntF, if_neg hs]
  split
  · rename_i f' r' h'; rw [h] at h'; cases h'; rfl
  · rename_i h'; exact absurd h (h' f r)
theorem cntF_le : ∀ (n : Nat) (s : List UInt8), s.length ≤ n → cntF s ≤ s.length
  | 0, s, hn => by
    have : s = [] := List.eq_nil_of_length_eq_zero (by omega)
    subst this
    rw [cntF, if_pos rfl]; exact Nat.le_refl _
  | n + 1, s, hn => by
    by_cases hs : s = []
    · subst hs; rw [cntF, if_pos rfl]; exact Nat.zero_le _
    · cases hT : takeF s with
      | ok f r =>
        have hlt := takeF_lt hT
        have := cntF_le n r (by omega)
        rw [cntF_ok hs hT]; omega
      | short =>
        rw [cntF, if_neg hs]
        split
        · rename_i f' r' h'; rw [hT] at h'; cases h'
        · exact Nat.zero_le _
      | wrong =>
        rw [cntF, if_neg hs]
        split
        · rename_i f' r' h'; rw [hT] at h'; cases h'
        · exact Nat.zero_le _
/-- What holds between two rounds. -/
structure PI (w : World) (c : LoopC) (D : Nat) (s : List UInt8) (acc : List WF) (v : Value) (rest : List UInt8) (w' : World) : Prop where
  L : w'.heap[D + 1]? = some (.loop (c.at .ready none))
  hD : w'.heap[D]? = some (.deferred (some []))
  A0 : w'.heap[w.heap.size]? = some (.cells #[.slice none 0 0] 81 (0, 0))
  A1 : w'.heap[w.heap.size + 1]? = some (.cells #[.bool false] 4 (0, 0))
  A2 : w'.heap[w.heap.size + 2]? = some (.cells #[v] 81 (0, 0))
  own : w'.ownsRow (D + 2) 101 4 v acc.length (FL acc)
  k : Keeps NoB w w'
  eq : parseF s = (parseF rest).map (acc ++ ·)
  len : acc.length + cntF rest = cntF s ∧ rest.length ≤ s.length
def parseR (s : List UInt8) (w : World) (v : Value) (w' : World) : Prop := match parseF s with
  | some l => ∃ sl, v = .tuple #[sl, .bool true] ∧ w'.ownsRow w.heap.size 101 4 sl l.length (FL l)
  | none => v = .tuple #[.slice none 0 0, .bool false]
theorem own_base {w : World} {base base' : Nat} {e : TypeId} {sz n : Nat} {v : Value} {xs : List Value} (h : w.ownsRow base e sz v n xs) (hb : base' ≤ base) : w.ownsRow base' e sz v n xs := by
  refine ⟨h.1, ?_⟩
  rcases h.2 with hn | ⟨g, cap, cur, h1, h2, h3⟩
  · exact .inl hn
  · exact .inr ⟨g, cap, cur, h1, by omega, h3⟩
set_option maxRecDepth 100000 in
set_option maxHeartbeats 4000000 in
theorem parse_ca' (s : List UInt8) (hs : s.length ≤ 281474976710656) (hcn : cntF s ≤ 1000000000000) {p q : Addr} {w : World} (hg : Glo w p q) : Ca Tryd.prog 56 #[S s] w fun v w' => parseR s w v w' ∧ Keeps NoB w w' := by
  obtain ⟨gl1, gl2, gl3⟩ := hg.lts
  refine ca_of_body (args := [S s]) Tryd.func56 rfl (by kernel_rfl) ?_
  (repeat first | (apply wr_move; exact rfl; with_reducible (conv => enter [6, 3]; whnf)) | apply wr_end | apply wc_seq | apply wc_region | (apply wr_alloc; exact rfl))
  refine wr_call (vs := [S s]) rfl (fields_ca s _) rfl ?_
  rintro v w2 ⟨hv, hbs, hk2, hsz2⟩
  simp only [World.size_alloc] at hv hbs hsz2
  have hv' : v = .func (.func 88) #[] #[.pointer (some ⟨w.heap.size + 3, 0, none⟩)] := hv
  clear hv
  subst hv'
  have hA0 := hk2.heap (b := w.heap.size) (o := .cells #[.slice none 0 0] 81 (0, 0)) (by focus repeat first | with_reducible assumption | exact heap_alloc_same _ _ | exact World.putObj_heap_same (by first | omega | (simp only [World.size_alloc, World.putObj_size, ne_eq]; omega)) | ((first | refine hAl ?_ ?_ | refine hPu ?_ ?_); focus first | omega | (simp only [World.size_alloc, World.putObj_size, ne_eq]; omega))) (fun h => h)
  have hA1 := hk2.heap (b := w.heap.size + 1) (o := .cells #[.bool false] 4 (0, 0)) ((heap_alloc_ne _ _ (by simp)).trans (heap_alloc_at _ _ (by simp))) (fun h => h)
  have hA2 := hk2.heap (b := w.heap.size + 2) (o := .cells #[.slice none 0 0] 81 (0, 0)) (heap_alloc_at _ _ (by simp)) (fun h => h)
  have hkw2 := ((((Keeps.refl NoB w).alloc _).alloc _).alloc _).trans hk2
  clear hk2
  (repeat first | apply wr_end | apply wc_block)
  refine wc_keep [(2, .pointer (some ⟨w.heap.size, 0, none⟩)), (3, .pointer (some ⟨w.heap.size + 1, 0, none⟩)), (4, .pointer (some ⟨w.heap.size + 2, 0, none⟩)), (8, .func (.func 88) #[] #[.pointer (some ⟨w.heap.size + 3, 0, none⟩)])]
    ⟨rfl, by show Value.pointer _ = _; simp, by show Value.pointer _ = _; simp, rfl, trivial⟩ ?_
  intro fr0
  refine wc_rangeC rfl ?_
  intro c w3 hcp hca hcb hrp hok hD hL hk3 hsz3
  have hst : ∀ rest w' w'', (∃ acc v, PI w c w2.heap.size s acc v rest w') → Keeps (· = w.heap.size + 3) w' w'' → ∃ acc v, PI w c w2.heap.size s acc v rest w'' := by
    rintro rest w' w'' ⟨acc, v, h⟩ k
    refine ⟨acc, v, k.heap h.L (by omega), k.heap h.hD (by omega), k.heap h.A0 (by omega), k.heap h.A1 (by omega), k.heap h.A2 (by omega), own_keep h.own k (fun b hb e => by have := (h.own.lt b hb).1; omega), h.k.trans' k (fun i hi e => by omega), h.eq, h.len⟩
  have hglo : ∀ rest w', (∃ acc v, PI w c w2.heap.size s acc v rest w') → Glo w' p q := fun rest w' ⟨acc, v, h⟩ => hg.keep h.k fun i hi h => h
  show Ca _ _ #[yieldV (w2.heap.size + 1), .pointer (some ⟨w.heap.size + 3, 0, none⟩)] _ _
  refine Ca.mono (fields1_ca (p := p) (q := q) (bs := w.heap.size + 3) (I := fun rest w' => ∃ acc v, PI w c w2.heap.size s acc v rest w')
    (J := fun w' => w'.heap[w2.heap.size + 1]? = some (.loop (c.at .done (some .ret))) ∧ w'.heap[w2.heap.size]? = some (.deferred (some [])) ∧ w'.heap[w.heap.size]? = some (.cells #[.slice none 0 0] 81 (0, 0)) ∧ w'.heap[w.heap.size + 1]? = some (.cells #[.bool false] 4 (0, 0)) ∧ Keeps NoB w w')
    hst hglo ?_ ?_ (s := s) (w := w3) ?_ ?_ (by omega)) ?_
  · -- a field
    rintro x ⟨fn, fk, fv, fs⟩ r w4 ⟨acc, v, hP⟩ hx hT
    obtain ⟨hL4, hD4, hA04, hA14, hA24, hown4, hk4, heq4, hlen4⟩ := hP
    have hg4 := hglo x w4 ⟨acc, v, hL4, hD4, hA04, hA14, hA24, hown4, hk4, heq4, hlen4⟩
    obtain ⟨⟨t0, r0, hg0⟩, ⟨t1, r1, hg1⟩, ⟨cp, tp, hgp⟩, ⟨cq, tq, hgq⟩, _⟩ := hg4
    have hsz4 := lt_of_heap hL4
    have hfl : fs.length ≤ x.length := takeF_s hT
    have hrl := takeF_lt hT
    have hcx := cntF_ok hx hT
    refine callV_yieldC (c := c) (args := [.agg #[.int .i64 fn, .int .i64 fk, .int .u64 (fv : Int), S fs], .nilIface]) hL4 (by rw [hcp]; rfl) hrp hok.2.2 ⟨hok.1, hok.2.1⟩ (f' := setL fr0 [(10, .nilIface), (9, .agg #[.int .i64 fn, .int .i64 fk, .int .u64 (fv : Int), S fs]), (2, .pointer (some ⟨w.heap.size, 0, none⟩)), (3, .pointer (some ⟨w.heap.size + 1, 0, none⟩)), (4, .pointer (some ⟨w.heap.size + 2, 0, none⟩)), (8, .func (.func 88) #[] #[.pointer (some ⟨w.heap.size + 3, 0, none⟩)])]) (by rw [hcp]; rfl) ?_
    rw [hca]
    (repeat first | apply wc_seq | apply wc_region | (apply wr_alloc; exact rfl))
    refine wr_storeAll (cs := [.int .i64 fn, .int .i64 fk, .int .u64 (fv : Int), S fs]) rfl rfl rfl (by intro u hu; simp at hu; rcases hu with rfl | rfl | rfl | rfl <;> rfl) (heap_alloc_same _ _) rfl rfl ?_
    (repeat first | (apply wr_assign; exact rfl; with_reducible (conv => enter [6, 3]; whnf)) | apply wr_end | apply wc_region)
    refine ⟨(heap_put_ne _ _ (by omega)).trans ((heap_alloc_ne _ _ (by omega)).trans hL4), ?_⟩
    rw [hcb]
    (repeat first | (apply wr_move; exact rfl; with_reducible (conv => enter [6, 3]; whnf)) | apply wc_seq | apply wc_region | apply wc_block | (apply wr_load; (iterate 3 exact rfl); (focus repeat first | with_reducible assumption | exact heap_alloc_same _ _ | exact World.putObj_heap_same (by first | omega | (simp only [World.size_alloc, World.putObj_size, ne_eq]; omega)) | ((first | refine hAl ?_ ?_ | refine hPu ?_ ?_); focus first | omega | (simp only [World.size_alloc, World.putObj_size, ne_eq]; omega))); exact rfl; conv => enter [6, 3]; whnf))
    refine wr_call (vs := [.nilIface, Er p]) rfl (Is_nil p _) rfl ?_
    rintro v5 w5 ⟨rfl, rfl⟩
    (repeat first | (apply wr_move; exact rfl; with_reducible (conv => enter [6, 3]; whnf)) | (apply wr_load; (iterate 3 exact rfl); (focus repeat first | with_reducible assumption | exact heap_alloc_same _ _ | exact World.putObj_heap_same (by first | omega | (simp only [World.size_alloc, World.putObj_size, ne_eq]; omega)) | ((first | refine hAl ?_ ?_ | refine hPu ?_ ?_); focus first | omega | (simp only [World.size_alloc, World.putObj_size, ne_eq]; omega))); exact rfl; conv => enter [6, 3]; whnf))
    refine wr_call (vs := [.nilIface, Er q]) rfl (Is_nil q _) rfl ?_
    rintro v5 w5 ⟨rfl, rfl⟩
    (repeat first | apply wr_end | apply wc_seq | apply wc_region | apply wc_skip | (apply wr_fieldAddr; iterate 2 exact rfl) | (apply wr_load; (iterate 3 exact rfl); (focus repeat first | with_reducible assumption | exact heap_alloc_same _ _ | exact World.putObj_heap_same (by first | omega | (simp only [World.size_alloc, World.putObj_size, ne_eq]; omega)) | ((first | refine hAl ?_ ?_ | refine hPu ?_ ?_); focus first | omega | (simp only [World.size_alloc, World.putObj_size, ne_eq]; omega))); exact rfl; conv => enter [6, 3]; whnf) | (apply wr_pick (t := false); (iterate 2 exact rfl); with_reducible (conv => enter [6, 3]; whnf)) | (apply wc_false; exact rfl))
    refine wr_call (vs := [S fs]) rfl (clone_ca fs (by omega) _) rfl ?_
    rintro v5 w5 ⟨rfl, hk5⟩
    have hf5 := hk5.heap (b := w4.heap.size) (o := .cells #[.int .i64 fn, .int .i64 fk, .int .u64 (fv : Int), S fs] 101 (0, 0)) (by focus repeat first | with_reducible assumption | exact heap_alloc_same _ _ | exact World.putObj_heap_same (by first | omega | (simp only [World.size_alloc, World.putObj_size, ne_eq]; omega)) | ((first | refine hAl ?_ ?_ | refine hPu ?_ ?_); focus first | omega | (simp only [World.size_alloc, World.putObj_size, ne_eq]; omega))) (fun h => h)
    have hL5 := hk5.heap (b := w2.heap.size + 1) (o := .loop (c.at .busy none)) (World.putObj_heap_same (by simp; omega)) (fun h => h)
    have hkk5 : Keeps (· = w2.heap.size + 1) w4 w5 := ((((Keeps.refl (fun k => k = w2.heap.size + 1) w4).alloc _).put _ (fun h => by omega)).put _ (fun h => rfl)).trans' hk5 (fun i hi h => h.elim)
    clear hk5
    have hA25 := hkk5.heap hA24 (by omega)
    have hsz5 := lt_of_heap hf5
    (repeat first | apply wr_end | apply wc_region | (apply wr_fieldAddr; iterate 2 exact rfl) | (apply wr_load; (iterate 3 exact rfl); (focus repeat first | with_reducible assumption | exact heap_alloc_same _ _ | exact World.putObj_heap_same (by first | omega | (simp only [World.size_alloc, World.putObj_size, ne_eq]; omega)) | ((first | refine hAl ?_ ?_ | refine hPu ?_ ?_); focus first | omega | (simp only [World.size_alloc, World.putObj_size, ne_eq]; omega))); exact rfl; conv => enter [6, 3]; whnf) | (apply wr_store; (iterate 3 exact rfl); (first | exact rfl | with_reducible assumption); (focus repeat first | with_reducible assumption | exact heap_alloc_same _ _ | exact World.putObj_heap_same (by first | omega | (simp only [World.size_alloc, World.putObj_size, ne_eq]; omega)) | ((first | refine hAl ?_ ?_ | refine hPu ?_ ?_); focus first | omega | (simp only [World.size_alloc, World.putObj_size, ne_eq]; omega))); exact rfl))
    refine wr_loadAll (cs := [.int .i64 fn, .int .i64 fk, .int .u64 (fv : Int), S fs]) rfl rfl rfl (World.putObj_heap_same hsz5) rfl ?_
    refine wr_buildSlice (vs := [.agg #[.int .i64 fn, .int .i64 fk, .int .u64 (fv : Int), S fs]]) rfl rfl (by intro v hv; simp at hv; subst hv; rfl) rfl (by decide) (by decide) (by decide) ?_
    have hkk6 : Keeps (· = w2.heap.size + 1) w4 (w5.putObj w4.heap.size (.cells #[.int .i64 fn, .int .i64 fk, .int .u64 (fv : Int), S fs] 101 (0, 0))) := hkk5.put _ (fun h => by omega)
    have hown6 := own_keep hown4 hkk6 (fun b hb e => by have := (hown4.lt b hb).1; omega)
    refine wr_append (v := v) (n := acc.length) (m := 1) (news := [.int .i64 fn, .int .i64 fk, .int .u64 (fv : Int), S fs]) rfl rfl (hown6.alloc _) rfl (heap_alloc_same _ _) rfl (by intro u hu; simp at hu; rcases hu with rfl | rfl | rfl | rfl <;> rfl) rfl (by decide) (by omega) (by omega) (by simp; omega) ?_
    intro v7 w7 hown7 hk7 _
    have hkk7 : Keeps (fun k => k = w2.heap.size + 1 ∨ v.ownBlock = some k) w4 w7 := ((hkk6.alloc _).mono (fun _ _ h => Or.inl h)).trans' hk7 (fun i hi h => .inr h)
    have hnb : ∀ b, v.ownBlock = some b → w2.heap.size + 2 ≤ b := fun b hb => (hown4.lt b hb).1
    have hL7 : w7.heap[w2.heap.size + 1]? = some (.loop (c.at .busy none)) := hk7.heap ((heap_alloc_ne _ _ (by simp; omega)).trans ((heap_put_ne _ _ (by omega)).trans hL5)) (fun h => by have := hnb _ h; omega)
    have hA27 := hkk7.heap hA24 (fun h => by rcases h with h | h; omega; have := hnb _ h; omega)
    have hsz7 := hkk7.size
    have h17 := own_one hown7
    (repeat first | (apply wr_store; (iterate 3 exact rfl); (first | exact rfl | with_reducible assumption); (focus repeat first | with_reducible assumption | exact heap_alloc_same _ _ | exact World.putObj_heap_same (by first | omega | (simp only [World.size_alloc, World.putObj_size, ne_eq]; omega)) | ((first | refine hAl ?_ ?_ | refine hPu ?_ ?_); focus first | omega | (simp only [World.size_alloc, World.putObj_size, ne_eq]; omega))); exact rfl) | (apply wr_nil; try simp only [thenE, inBlockE, bodyQ]))
    refine ⟨(heap_put_ne _ _ (by omega)).trans hL7, rfl, ?_, ?_⟩
    · have hkk8 : Keeps (fun k => k = w2.heap.size + 1 ∨ k = w.heap.size + 2 ∨ v.ownBlock = some k) w4 ((w7.putObj (w.heap.size + 2) (.cells #[v7] 81 (0, 0))).putObj (w2.heap.size + 1) (.loop (c.at .ready none))) := ((hkk7.mono (fun _ _ h => by rcases h with h | h; exact .inl h; exact .inr (.inr h))).put _ (fun _ => .inr (.inl rfl))).put _ (fun _ => .inl rfl)
      have hno : ∀ i, i < w2.heap.size + 2 → i ≠ w2.heap.size + 1 → i ≠ w.heap.size + 2 → ¬ (i = w2.heap.size + 1 ∨ i = w.heap.size + 2 ∨ v.ownBlock = some i) := by
        rintro i h1 h2 h3 (h | h | h)
        · exact h2 h
        · exact h3 h
        · have := hnb _ h; omega
      refine ⟨acc ++ [⟨fn, fk, fv, fs⟩], v7, World.putObj_heap_same (by simp; omega), hkk8.heap hD4 (hno _ (by omega) (by omega) (by omega)), hkk8.heap hA04 (hno _ (by omega) (by omega) (by omega)), hkk8.heap hA14 (hno _ (by omega) (by omega) (by omega)),
        (heap_put_ne _ _ (by omega)).trans (World.putObj_heap_same (lt_of_heap hA27)), ?_, hk4.trans' hkk8 (fun i hi h => (hno i (by omega) (by omega) (by omega) h).elim), ?_, ⟨by simp; omega, by omega⟩⟩
      · rw [FL_snoc, List.length_append]
        have hkp : Keeps (fun k => k = w2.heap.size + 1 ∨ k = w.heap.size + 2) w7 ((w7.putObj (w.heap.size + 2) (.cells #[v7] 81 (0, 0))).putObj (w2.heap.size + 1) (.loop (c.at .ready none))) := ((Keeps.refl _ w7).put _ (fun _ => .inr rfl)).put _ (fun _ => .inl rfl)
        exact own_keep hown7 hkp (fun b hb e => by have := (hown7.lt b hb).1; omega)
      · rw [heq4, parseF_ok hx hT]
        cases parseF r <;> simp
    · refine (heap_put_ne _ _ (by omega)).trans ((heap_put_ne _ _ (by omega)).trans (hkk7.block _ (by omega) ?_))
      rintro (h | h)
      · omega
      · have := hnb _ h; omega
  · -- an error
    rintro x ⟨fn, fk, fv, fs⟩ k e w4 ⟨acc, v, hP⟩ hx hT
    obtain ⟨hL4, hD4, hA04, hA14, hA24, hown4, hk4, heq4, hlen4⟩ := hP
    have hg4 := hglo x w4 ⟨acc, v, hL4, hD4, hA04, hA14, hA24, hown4, hk4, heq4, hlen4⟩
    obtain ⟨⟨t0, r0, hg0⟩, ⟨t1, r1, hg1⟩, ⟨cp, tp, hgp⟩, ⟨cq, tq, hgq⟩, hpq⟩ := hg4
    have hsz4 := lt_of_heap hL4
    have hkp := hk4.size
    refine callV_yieldC (c := c) (args := [.agg #[.int .i64 fn, .int .i64 fk, .int .u64 (fv : Int), S fs], At k e]) hL4 (by rw [hcp]; rfl) hrp hok.2.2 ⟨hok.1, hok.2.1⟩ (f' := setL fr0 [(10, At k e), (9, .agg #[.int .i64 fn, .int .i64 fk, .int .u64 (fv : Int), S fs]), (2, .pointer (some ⟨w.heap.size, 0, none⟩)), (3, .pointer (some ⟨w.heap.size + 1, 0, none⟩)), (4, .pointer (some ⟨w.heap.size + 2, 0, none⟩)), (8, .func (.func 88) #[] #[.pointer (some ⟨w.heap.size + 3, 0, none⟩)])]) (by rw [hcp]; rfl) ?_
    rw [hca]
    rcases hT with ⟨hT, rfl⟩ | ⟨hT, rfl⟩
    all_goals
      (repeat first | apply wc_seq | apply wc_region | (apply wr_alloc; exact rfl))
      refine wr_storeAll (cs := [.int .i64 fn, .int .i64 fk, .int .u64 (fv : Int), S fs]) rfl rfl rfl (by intro u hu; simp at hu; rcases hu with rfl | rfl | rfl | rfl <;> rfl) (heap_alloc_same _ _) rfl rfl ?_
      (repeat first | (apply wr_assign; exact rfl; with_reducible (conv => enter [6, 3]; whnf)) | apply wr_end | apply wc_region)
      refine ⟨(heap_put_ne _ _ (by omega)).trans ((heap_alloc_ne _ _ (by omega)).trans hL4), ?_⟩
      rw [hcb]
      (repeat first | (apply wr_move; exact rfl; with_reducible (conv => enter [6, 3]; whnf)) | apply wc_seq | apply wc_region | apply wc_block | (apply wr_load; (iterate 3 exact rfl); (focus repeat first | with_reducible assumption | exact heap_alloc_same _ _ | exact World.putObj_heap_same (by first | omega | (simp only [World.size_alloc, World.putObj_size, ne_eq]; omega)) | ((first | refine hAl ?_ ?_ | refine hPu ?_ ?_); focus first | omega | (simp only [World.size_alloc, World.putObj_size, ne_eq]; omega))); exact rfl; conv => enter [6, 3]; whnf))
    · refine wr_call (vs := [At k (Er p), Er p]) rfl (Is_ca true k p p (cp := cp) (tp := tp) (cq := cp) (tq := tp) (by focus repeat first | with_reducible assumption | exact heap_alloc_same _ _ | exact World.putObj_heap_same (by first | omega | (simp only [World.size_alloc, World.putObj_size, ne_eq]; omega)) | ((first | refine hAl ?_ ?_ | refine hPu ?_ ?_); focus first | omega | (simp only [World.size_alloc, World.putObj_size, ne_eq]; omega))) (by focus repeat first | with_reducible assumption | exact heap_alloc_same _ _ | exact World.putObj_heap_same (by first | omega | (simp only [World.size_alloc, World.putObj_size, ne_eq]; omega)) | ((first | refine hAl ?_ ?_ | refine hPu ?_ ?_); focus first | omega | (simp only [World.size_alloc, World.putObj_size, ne_eq]; omega)))) rfl ?_
      rintro v5 w5 ⟨rfl, hk5⟩
      rw [decide_eq_true rfl]
      have hkk5 : Keeps (fun k => k = w2.heap.size + 1) w4 w5 := ((((Keeps.refl (fun k => k = w2.heap.size + 1) w4).alloc _).put _ (fun h => by omega)).put _ (fun h => rfl)).trans' hk5 (fun i hi h => h.elim)
      have hL5 := hk5.heap (b := w2.heap.size + 1) (o := .loop (c.at .busy none)) (World.putObj_heap_same (by simp; omega)) (fun h => h)
      have hA05 := hkk5.heap hA04 (by omega)
      have hA15 := hkk5.heap hA14 (by omega)
      have hD5 := hkk5.heap hD4 (by omega)
      have hk5w := hk4.trans' hkk5 (fun i hi h => by omega)
      clear hk5 hkk5
      (repeat first | (apply wr_move; exact rfl; with_reducible (conv => enter [6, 3]; whnf)) | apply wr_end | apply wc_seq | apply wc_region | (apply wr_pick (t := true); (iterate 2 exact rfl); with_reducible (conv => enter [6, 3]; whnf)) | (apply wr_store; (iterate 3 exact rfl); (first | exact rfl | with_reducible assumption); (focus repeat first | with_reducible assumption | exact heap_alloc_same _ _ | exact World.putObj_heap_same (by first | omega | (simp only [World.size_alloc, World.putObj_size, ne_eq]; omega)) | ((first | refine hAl ?_ ?_ | refine hPu ?_ ?_); focus first | omega | (simp only [World.size_alloc, World.putObj_size, ne_eq]; omega))); exact rfl) | (apply wc_true; exact rfl) | (apply wc_ret; try simp only [thenE, inBlockE, bodyQ]) | (apply wr_skip; exact rfl))
      refine ⟨(heap_put_ne _ _ (by omega)).trans ((heap_put_ne _ _ (by omega)).trans hL5), World.putObj_heap_same (by simp; exact lt_of_heap hL5), (heap_put_ne _ _ (by omega)).trans ((heap_put_ne _ _ (by omega)).trans ((heap_put_ne _ _ (by omega)).trans hD5)), (heap_put_ne _ _ (by omega)).trans ((heap_put_ne _ _ (by omega)).trans (World.putObj_heap_same (lt_of_heap hA05))), (heap_put_ne _ _ (by omega)).trans (World.putObj_heap_same (by simp; exact lt_of_heap hA15)), ((hk5w.put _ (fun h => by omega)).put _ (fun h => by omega)).put _ (fun h => by omega)⟩
    · refine wr_call (vs := [At k (Er q), Er p]) rfl (Is_ca true k q p (cp := cq) (tp := tq) (cq := cp) (tq := tp) (by focus repeat first | with_reducible assumption | exact heap_alloc_same _ _ | exact World.putObj_heap_same (by first | omega | (simp only [World.size_alloc, World.putObj_size, ne_eq]; omega)) | ((first | refine hAl ?_ ?_ | refine hPu ?_ ?_); focus first | omega | (simp only [World.size_alloc, World.putObj_size, ne_eq]; omega))) (by focus repeat first | with_reducible assumption | exact heap_alloc_same _ _ | exact World.putObj_heap_same (by first | omega | (simp only [World.size_alloc, World.putObj_size, ne_eq]; omega)) | ((first | refine hAl ?_ ?_ | refine hPu ?_ ?_); focus first | omega | (simp only [World.size_alloc, World.putObj_size, ne_eq]; omega)))) rfl ?_
      rintro v5 w5 ⟨rfl, hk5⟩
      rw [decide_eq_false (Ne.symm hpq)]
      have hkk5 : Keeps (fun k => k = w2.heap.size + 1) w4 w5 := ((((Keeps.refl (fun k => k = w2.heap.size + 1) w4).alloc _).put _ (fun h => by omega)).put _ (fun h => rfl)).trans' hk5 (fun i hi h => h.elim)
      have hL5 := hk5.heap (b := w2.heap.size + 1) (o := .loop (c.at .busy none)) (World.putObj_heap_same (by simp; omega)) (fun h => h)
      have hgq5 := hkk5.heap hgq (by omega)
      have hg15 := hkk5.heap hg1 (by omega)
      clear hk5
      (repeat first | (apply wr_move; exact rfl; with_reducible (conv => enter [6, 3]; whnf)) | (apply wr_load; (iterate 3 exact rfl); (focus repeat first | with_reducible assumption | exact heap_alloc_same _ _ | exact World.putObj_heap_same (by first | omega | (simp only [World.size_alloc, World.putObj_size, ne_eq]; omega)) | ((first | refine hAl ?_ ?_ | refine hPu ?_ ?_); focus first | omega | (simp only [World.size_alloc, World.putObj_size, ne_eq]; omega))); exact rfl; conv => enter [6, 3]; whnf))
      refine wr_call (vs := [At k (Er q), Er q]) rfl (Is_ca true k q q (cp := cq) (tp := tq) (cq := cq) (tq := tq) hgq5 hgq5) rfl ?_
      rintro v6 w6 ⟨rfl, hk6⟩
      rw [decide_eq_true rfl]
      have hkk6 := hkk5.trans' hk6 (fun i hi h => h.elim)
      have hL6 := hk6.heap hL5 (fun h => h)
      have hA05 := hkk6.heap hA04 (by omega)
      have hA15 := hkk6.heap hA14 (by omega)
      have hD5 := hkk6.heap hD4 (by omega)
      have hk5w := hk4.trans' hkk6 (fun i hi h => by omega)
      clear hk6 hkk5 hkk6
      (repeat first | apply wr_end | apply wc_seq | apply wc_region | (apply wr_pick (t := false); (iterate 2 exact rfl); with_reducible (conv => enter [6, 3]; whnf)) | (apply wr_store; (iterate 3 exact rfl); (first | exact rfl | with_reducible assumption); (focus repeat first | with_reducible assumption | exact heap_alloc_same _ _ | exact World.putObj_heap_same (by first | omega | (simp only [World.size_alloc, World.putObj_size, ne_eq]; omega)) | ((first | refine hAl ?_ ?_ | refine hPu ?_ ?_); focus first | omega | (simp only [World.size_alloc, World.putObj_size, ne_eq]; omega))); exact rfl) | (apply wc_true; exact rfl) | (apply wc_ret; try simp only [thenE, inBlockE, bodyQ]))
      refine ⟨(heap_put_ne _ _ (by omega)).trans ((heap_put_ne _ _ (by omega)).trans hL6), World.putObj_heap_same (by simp; exact lt_of_heap hL6), (heap_put_ne _ _ (by omega)).trans ((heap_put_ne _ _ (by omega)).trans ((heap_put_ne _ _ (by omega)).trans hD5)), (heap_put_ne _ _ (by omega)).trans ((heap_put_ne _ _ (by omega)).trans (World.putObj_heap_same (lt_of_heap hA05))), (heap_put_ne _ _ (by omega)).trans (World.putObj_heap_same (by simp; exact lt_of_heap hA15)), ((hk5w.put _ (fun h => by omega)).put _ (fun h => by omega)).put _ (fun h => by omega)⟩
  · -- ahead of the first
    exact ⟨[], .slice none 0 0, hL, hD, hk3.heap hA0 (fun h => h), hk3.heap hA1 (fun h => h), hk3.heap hA2 (fun h => h), ⟨rfl, .inl ⟨rfl, rfl⟩⟩, hkw2.trans hk3, by cases parseF s <;> simp, ⟨by simp, Nat.le_refl _⟩⟩
  · exact hk3.heap hbs (fun h => h)
  · rintro v w' (⟨hsome, acc, r, hP⟩ | ⟨hnone, hL', hD', hA0', hA1', hk'⟩)
    · left
      obtain ⟨hL4, hD4, hA04, hA14, hA24, hown4, hk4, heq4, hlen4⟩ := hP
      have h1r := own_one hown4
      refine ⟨hL4, ?_⟩
      simp only [inBlockE, thenE]
      have hD4' := (heap_put_ne w' (b := w2.heap.size + 1) (.loop (c.at .exhausted none)) (by omega : w2.heap.size ≠ w2.heap.size + 1)).trans hD4
      have hA04' := (heap_put_ne w' (b := w2.heap.size + 1) (.loop (c.at .exhausted none)) (by omega : w.heap.size ≠ w2.heap.size + 1)).trans hA04
      have hA14' := (heap_put_ne w' (b := w2.heap.size + 1) (.loop (c.at .exhausted none)) (by omega : w.heap.size + 1 ≠ w2.heap.size + 1)).trans hA14
      have hA24' := (heap_put_ne w' (b := w2.heap.size + 1) (.loop (c.at .exhausted none)) (by omega : w.heap.size + 2 ≠ w2.heap.size + 1)).trans hA24
      have hown4' := own_keep hown4 ((Keeps.refl (fun k => k = w2.heap.size + 1) w').put (b := w2.heap.size + 1) (.loop (c.at .exhausted none)) (fun _ => rfl)) (fun b hb e => by have := (hown4.lt b hb).1; omega)
      have hk4' := hk4.put (b := w2.heap.size + 1) (.loop (c.at .exhausted none)) (fun h => by omega)
      generalize w'.putObj (w2.heap.size + 1) (.loop (c.at .exhausted none)) = w8 at hD4' hA04' hA14' hA24' hown4' hk4' ⊢
      (repeat first | apply wr_end | apply wc_seq | apply wc_region | (apply wr_load; (iterate 3 exact rfl); (focus repeat first | with_reducible assumption | exact heap_alloc_same _ _ | exact World.putObj_heap_same (by first | omega | (simp only [World.size_alloc, World.putObj_size, ne_eq]; omega)) | ((first | refine hAl ?_ ?_ | refine hPu ?_ ?_); focus first | omega | (simp only [World.size_alloc, World.putObj_size, ne_eq]; omega))); exact rfl; conv => enter [6, 3]; whnf) | (apply wr_store; (iterate 3 exact rfl); (first | exact rfl | with_reducible assumption); (focus repeat first | with_reducible assumption | exact heap_alloc_same _ _ | exact World.putObj_heap_same (by first | omega | (simp only [World.size_alloc, World.putObj_size, ne_eq]; omega)) | ((first | refine hAl ?_ ?_ | refine hPu ?_ ?_); focus first | omega | (simp only [World.size_alloc, World.putObj_size, ne_eq]; omega))); exact rfl) | (apply wc_ret; try simp only [thenE, inBlockE, bodyQ]))
      refine ⟨w2.heap.size, rfl, (heap_put_ne _ _ (by omega)).trans ((heap_put_ne _ _ (by omega)).trans hD4'), ?_⟩
      refine leaveN (vs := [r, .bool true]) (resv_cell (b := w.heap.size) (v := r) (c := #[r]) rfl rfl ((heap_put_ne _ _ (by omega)).trans ((heap_put_ne _ _ (by omega)).trans (World.putObj_heap_same (lt_of_heap hA04')))) rfl (resv_cell (b := w.heap.size + 1) (v := .bool true) (c := #[.bool true]) rfl rfl ((heap_put_ne _ _ (by omega)).trans (World.putObj_heap_same (by simp; exact lt_of_heap hA14'))) rfl resv_nil)) ⟨?_, ((hk4'.put _ (fun h => by omega)).put _ (fun h => by omega)).put _ (fun h => by omega)⟩
      rw [parseF_nil] at heq4
      unfold parseR
      rw [heq4]
      simp only [Option.map_some, List.append_nil]
      refine ⟨r, rfl, own_base (own_keep hown4' (((Keeps.refl (fun k => k < w2.heap.size + 2) w8).put _ (fun h => by omega)).put _ (fun h => by omega) |>.put _ (fun h => by omega)) (fun b hb e => by have := (hown4.lt b hb).1; omega)) (by omega)⟩
    · right
      refine ⟨.ret, hL', rfl, wc_ret ?_⟩
      simp only [inBlockE, thenE, bodyQ]
      refine ⟨w2.heap.size, rfl, (heap_put_ne _ _ (by omega)).trans hD', ?_⟩
      refine leaveN (vs := [.slice none 0 0, .bool false]) (resv_cell (b := w.heap.size) (v := .slice none 0 0) (c := #[.slice none 0 0]) rfl rfl ((heap_put_ne _ _ (by omega)).trans ((heap_put_ne _ _ (by omega)).trans hA0')) rfl (resv_cell (b := w.heap.size + 1) (v := .bool false) (c := #[.bool false]) rfl rfl ((heap_put_ne _ _ (by omega)).trans ((heap_put_ne _ _ (by omega)).trans hA1')) rfl resv_nil)) ⟨?_, (hk'.put _ (fun h => by omega)).put _ (fun h => by omega)⟩
      unfold parseR
      rw [hnone]; rfl
theorem parse_ca (s : List UInt8) (hs : s.length ≤ 1000000000000) {p q : Addr} {w : World} (hg : Glo w p q) : Ca Tryd.prog 56 #[S s] w fun v w' => parseR s w v w' ∧ Keeps NoB w w' :=
  parse_ca' s (by omega) (Nat.le_trans (cntF_le _ s (Nat.le_refl _)) hs) hg
end Go.Proofs.YthlbgeonobicbaaDoor

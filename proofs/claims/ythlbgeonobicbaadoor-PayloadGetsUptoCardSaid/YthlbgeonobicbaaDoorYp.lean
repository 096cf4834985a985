/- slices.Equal at payload's rows; payload.Same: true just where all is equal. -/
import Derived.Test.YthlbgeonobicbaaDoorYo
import Derived.Test.YthlbgeonobicbaaDoorM6
namespace Go.Proofs.YthlbgeonobicbaaDoor
open Go Go.V Go.RowKit
set_option linter.unusedVariables false
set_option linter.unusedSimpArgs false

theorem rule_stood : Tryd.prog.stoodInHeld 51 = false := by kernel_rfl
theorem rule_guard : Tryd.prog.eqGuardType Tryd.prog.depth 51 = false := by kernel_rfl
theorem rule_eqOk (x y : RuleD) (w : World) : EqOk Tryd.prog w 9999 (GR x).toArray (GR y).toArray
    [⟨"Prefix", 9, 0, false, "", "", 0⟩, ⟨"Cluster", 9, 1, false, "", "", 16⟩] [decide (x.1 = y.1), decide (x.2 = y.2)] :=
  ⟨⟨by decide, _, _, run_part1 Tryd.underlying9 rfl rfl, run_part1 Tryd.underlying9 rfl rfl, equalIn_str 9998 inferInstance _ _ _⟩,
   ⟨by decide, _, _, run_part1 Tryd.underlying9 rfl rfl, run_part1 Tryd.underlying9 rfl rfl, equalIn_str 9998 inferInstance _ _ _⟩, trivial⟩
theorem addr_stood : Tryd.prog.stoodInHeld 65 = false := by kernel_rfl
theorem addr_guard : Tryd.prog.eqGuardType Tryd.prog.depth 65 = false := by kernel_rfl
theorem addr_eqOk (x y : AddrD) (w : World) : EqOk Tryd.prog w 9999 (GA x).toArray (GA y).toArray
    [⟨"Host", 9, 0, false, "", "", 0⟩, ⟨"Port", 22, 1, false, "", "", 16⟩, ⟨"Weight", 22, 2, false, "", "", 24⟩] [decide (x.1 = y.1), decide ((x.2.1 : Int) = (y.2.1 : Int)), decide ((x.2.2 : Int) = (y.2.2 : Int))] :=
  ⟨⟨by decide, _, _, run_part1 Tryd.underlying9 rfl rfl, run_part1 Tryd.underlying9 rfl rfl, equalIn_str 9998 inferInstance _ _ _⟩,
   ⟨by decide, _, _, run_part1 Tryd.underlying22 rfl rfl, run_part1 Tryd.underlying22 rfl rfl, equalIn_int 9998 inferInstance _ _ _⟩,
   ⟨by decide, _, _, run_part1 Tryd.underlying22 rfl rfl, run_part1 Tryd.underlying22 rfl rfl, equalIn_int 9998 inferInstance _ _ _⟩, trivial⟩
set_option maxRecDepth 100000 in
set_option maxHeartbeats 1000000 in
theorem ruleEqual_ca (l m : List RuleD) (x y : Value) (w : World) (hx : SlR w 2 x l.length (l.flatMap GR)) (hy : SlR w 2 y m.length (m.flatMap GR)) (hlen : l.length ≤ 1000000000000) (hlen' : m.length ≤ 1000000000000) :
    Ca Tryd.prog 44 #[x, y] w fun v w' => v = .bool (decide (l = m)) ∧ Keeps NoB w w' := by
  obtain ⟨a, c, rfl, hc, hat⟩ := hx.shape
  obtain ⟨a', c', rfl, hc', hat'⟩ := hy.shape
  refine ca_of_body (args := [.slice a l.length c, .slice a' m.length c']) Tryd.func44 rfl (by kernel_rfl) ?_
  by_cases hlm : l.length = m.length
  · (repeat first | (apply wr_move; exact rfl; with_reducible (conv => enter [6, 3]; whnf)) | (apply wr_assign; exact rfl; with_reducible (conv => enter [6, 3]; whnf)) | apply wr_end | apply wc_seq | apply wc_region | apply wc_skip | apply wc_block | (apply wr_len_slice; iterate 2 exact rfl) | (apply wr_cmp; (iterate 3 exact rfl); exact cmpF (by dsimp only [cmpN]; first | done | omega)) | (apply wc_false; exact rfl))
    refine wc_loopL (α := Nat) (fun i => [(0, .slice a l.length c), (1, .slice a' m.length c'), (12, .int .i64 (l.length : Int)), (13, .int .i64 (i : Int))])
      (fun i ds w' => ds = [] ∧ i ≤ l.length ∧ l.take i = m.take i ∧ Keeps NoB w w') (fun i => l.length - i) 0 ⟨rfl, Nat.zero_le _, rfl, Keeps.refl _ _⟩ ⟨rfl, rfl, rfl, rfl, trivial⟩ ?_
    rintro i ds f0 w2 ⟨rfl, hi, hpre, hk2⟩
    by_cases hlt : i < l.length
    · obtain ⟨b, o, rfl, cur, e, fr, hb, hr⟩ := hat (by omega)
      obtain ⟨b', o', rfl, cur', e', fr', hb', hr'⟩ := hat' (by omega)
      have hb2 := hk2.heap hb (fun h => h)
      have hb2' := hk2.heap hb' (fun h => h)
      obtain ⟨p, hp⟩ : ∃ p, l[i]? = some p := ⟨l[i], by simp [hlt]⟩
      obtain ⟨q, hq⟩ : ∃ q, m[i]? = some q := ⟨m[i]'(by omega), by simp [show i < m.length by omega]⟩
      obtain ⟨cc, hcc⟩ : ∃ cc : Bool, cc = !decide (p = q) := ⟨_, rfl⟩
      (repeat first | (apply wr_move; exact rfl; with_reducible (conv => enter [6, 3]; whnf)) | (apply wr_assign; exact rfl; with_reducible (conv => enter [6, 3]; whnf)) | apply wr_end | apply wc_seq | apply wc_region | apply wc_skip | apply wc_block | (apply wr_cmp; (iterate 3 exact rfl); exact cmpT (by dsimp only [cmpP]; first | done | omega)) | (apply wc_true; exact rfl))
      refine wc_drawS (l := _) (S := fun w' => w' = w2.drew) (by kernel_rfl) (by kernel_rfl) rfl ?_
      apply ch_step
      focus
        intro w' hS
        subst hS
        apply wr_move; exact rfl; with_reducible (conv => enter [6, 3]; whnf)
        apply wr_nil
        exact ⟨rfl, rfl⟩
      apply ch_step
      focus
        intro w' hS
        subst hS
        apply wr_move; exact rfl; with_reducible (conv => enter [6, 3]; whnf)
        apply wr_nil
        exact ⟨rfl, rfl⟩
      apply ch_step
      focus
        intro w' hS
        subst hS
        refine wr_indexAddr (i := i) rfl rfl rfl hlt ?_
        apply wr_nil
        exact ⟨rfl, rfl⟩
      apply ch_step
      focus
        intro w' hS
        subst hS
        refine wr_loadElem (G := GR) (n := l.length) rfl rfl GR_len rfl hb2 hr hlt hp rfl ?_
        apply wr_nil
        exact ⟨rfl, rfl⟩
      apply ch_step
      focus
        intro w' hS
        subst hS
        apply wr_move; exact rfl; with_reducible (conv => enter [6, 3]; whnf)
        apply wr_nil
        exact ⟨rfl, rfl⟩
      apply ch_step
      focus
        intro w' hS
        subst hS
        apply wr_move; exact rfl; with_reducible (conv => enter [6, 3]; whnf)
        apply wr_nil
        exact ⟨rfl, rfl⟩
      apply ch_step
      focus
        intro w' hS
        subst hS
        refine wr_indexAddr (i := i) rfl rfl rfl (by omega) ?_
        apply wr_nil
        exact ⟨rfl, rfl⟩
      apply ch_step
      focus
        intro w' hS
        subst hS
        refine wr_loadElem (G := GR) (n := m.length) rfl rfl GR_len rfl hb2' hr' (by omega) hq rfl ?_
        apply wr_nil
        exact ⟨rfl, rfl⟩
      apply ch_step
      focus
        intro w' hS
        subst hS
        refine wr_structNe (c := cc) rfl rfl rfl rule_stood rule_guard (rule_eqOk p q _) (by rw [hcc]; (obtain ⟨p1, p2⟩ := p; obtain ⟨q1, q2⟩ := q; simp [List.all_cons, Prod.mk.injEq, Bool.decide_and])) ?_
        apply wr_nil
        exact ⟨rfl, rfl⟩
      refine ch_nil ?_
      intro w' hS
      subst hS
      by_cases he : p = q
      · rw [decide_eq_true he] at hcc
        subst hcc
        (repeat first | (apply wr_move; exact rfl; with_reducible (conv => enter [6, 3]; whnf)) | apply wr_end | apply wc_region | apply wc_skip | (apply wr_add; (iterate 3 exact rfl); exact w_fit (by dsimp only [kIn]; first | done | omega)) | (apply wc_false; exact rfl))
        refine ⟨i + 1, by omega, ⟨by trivial, hlt, ?_, hk2.drew⟩, rfl, rfl, rfl, by simp, trivial⟩
        rw [List.take_add_one, List.take_add_one, hp, hq, hpre, he]
      · rw [decide_eq_false he] at hcc
        subst hcc
        (repeat first | (apply wr_assign; exact rfl; with_reducible (conv => enter [6, 3]; whnf)) | apply wr_end | apply wc_seq | apply wc_region | (apply wc_true; exact rfl) | (apply wc_ret; try simp only [thenE, inBlockE, bodyQ]))
        refine leave1 (v := .bool false) rfl rfl ⟨?_, hk2.drew⟩
        rw [decide_eq_false]
        intro h
        rw [h, hq] at hp
        exact he (Option.some.inj hp).symm
    · have he : i = l.length := by omega
      subst he
      rw [List.take_length, List.take_of_length_le (by omega)] at hpre
      (repeat first | (apply wr_assign; exact rfl; with_reducible (conv => enter [6, 3]; whnf)) | apply wr_end | apply wc_seq | apply wc_region | (apply wr_cmp; (iterate 3 exact rfl); exact cmpF (by dsimp only [cmpN]; first | done | omega)) | (apply wc_false; exact rfl) | (apply wc_exit; try simp only [thenE, inBlockE, bodyQ, ↓reduceIte, Nat.reduceEqDiff]) | (apply wc_ret; try simp only [thenE, inBlockE, bodyQ]))
      exact leave1 (v := .bool true) rfl rfl ⟨by rw [decide_eq_true hpre], hk2⟩
  · (repeat first | (apply wr_move; exact rfl; with_reducible (conv => enter [6, 3]; whnf)) | (apply wr_assign; exact rfl; with_reducible (conv => enter [6, 3]; whnf)) | apply wr_end | apply wc_seq | apply wc_region | (apply wr_len_slice; iterate 2 exact rfl) | (apply wr_cmp; (iterate 3 exact rfl); exact cmpT (by dsimp only [cmpP]; first | done | omega)) | (apply wc_true; exact rfl) | (apply wc_ret; try simp only [thenE, inBlockE, bodyQ]))
    exact leave1 (v := .bool false) rfl rfl ⟨by rw [decide_eq_false (fun h => hlm (by rw [h]))], Keeps.refl _ _⟩
set_option maxRecDepth 100000 in
set_option maxHeartbeats 1000000 in
theorem addrEqual_ca (l m : List AddrD) (x y : Value) (w : World) (hx : SlR w 3 x l.length (l.flatMap GA)) (hy : SlR w 3 y m.length (m.flatMap GA)) (hlen : l.length ≤ 1000000000000) (hlen' : m.length ≤ 1000000000000) :
    Ca Tryd.prog 45 #[x, y] w fun v w' => v = .bool (decide (l = m)) ∧ Keeps NoB w w' := by
  obtain ⟨a, c, rfl, hc, hat⟩ := hx.shape
  obtain ⟨a', c', rfl, hc', hat'⟩ := hy.shape
  refine ca_of_body (args := [.slice a l.length c, .slice a' m.length c']) Tryd.func45 rfl (by kernel_rfl) ?_
  by_cases hlm : l.length = m.length
  · (repeat first | (apply wr_move; exact rfl; with_reducible (conv => enter [6, 3]; whnf)) | (apply wr_assign; exact rfl; with_reducible (conv => enter [6, 3]; whnf)) | apply wr_end | apply wc_seq | apply wc_region | apply wc_skip | apply wc_block | (apply wr_len_slice; iterate 2 exact rfl) | (apply wr_cmp; (iterate 3 exact rfl); exact cmpF (by dsimp only [cmpN]; first | done | omega)) | (apply wc_false; exact rfl))
    refine wc_loopL (α := Nat) (fun i => [(0, .slice a l.length c), (1, .slice a' m.length c'), (12, .int .i64 (l.length : Int)), (13, .int .i64 (i : Int))])
      (fun i ds w' => ds = [] ∧ i ≤ l.length ∧ l.take i = m.take i ∧ Keeps NoB w w') (fun i => l.length - i) 0 ⟨rfl, Nat.zero_le _, rfl, Keeps.refl _ _⟩ ⟨rfl, rfl, rfl, rfl, trivial⟩ ?_
    rintro i ds f0 w2 ⟨rfl, hi, hpre, hk2⟩
    by_cases hlt : i < l.length
    · obtain ⟨b, o, rfl, cur, e, fr, hb, hr⟩ := hat (by omega)
      obtain ⟨b', o', rfl, cur', e', fr', hb', hr'⟩ := hat' (by omega)
      have hb2 := hk2.heap hb (fun h => h)
      have hb2' := hk2.heap hb' (fun h => h)
      obtain ⟨p, hp⟩ : ∃ p, l[i]? = some p := ⟨l[i], by simp [hlt]⟩
      obtain ⟨q, hq⟩ : ∃ q, m[i]? = some q := ⟨m[i]'(by omega), by simp [show i < m.length by omega]⟩
      obtain ⟨cc, hcc⟩ : ∃ cc : Bool, cc = !decide (p = q) := ⟨_, rfl⟩
      (repeat first | (apply wr_move; exact rfl; with_reducible (conv => enter [6, 3]; whnf)) | (apply wr_assign; exact rfl; with_reducible (conv => enter [6, 3]; whnf)) | apply wr_end | apply wc_seq | apply wc_region | apply wc_skip | apply wc_block | (apply wr_cmp; (iterate 3 exact rfl); exact cmpT (by dsimp only [cmpP]; first | done | omega)) | (apply wc_true; exact rfl))
      refine wc_drawS (l := _) (S := fun w' => w' = w2.drew) (by kernel_rfl) (by kernel_rfl) rfl ?_
      apply ch_step
      focus
        intro w' hS
        subst hS
        apply wr_move; exact rfl; with_reducible (conv => enter [6, 3]; whnf)
        apply wr_nil
        exact ⟨rfl, rfl⟩
      apply ch_step
      focus
        intro w' hS
        subst hS
        apply wr_move; exact rfl; with_reducible (conv => enter [6, 3]; whnf)
        apply wr_nil
        exact ⟨rfl, rfl⟩
      apply ch_step
      focus
        intro w' hS
        subst hS
        refine wr_indexAddr (i := i) rfl rfl rfl hlt ?_
        apply wr_nil
        exact ⟨rfl, rfl⟩
      apply ch_step
      focus
        intro w' hS
        subst hS
        refine wr_loadElem (G := GA) (n := l.length) rfl rfl GA_len rfl hb2 hr hlt hp rfl ?_
        apply wr_nil
        exact ⟨rfl, rfl⟩
      apply ch_step
      focus
        intro w' hS
        subst hS
        apply wr_move; exact rfl; with_reducible (conv => enter [6, 3]; whnf)
        apply wr_nil
        exact ⟨rfl, rfl⟩
      apply ch_step
      focus
        intro w' hS
        subst hS
        apply wr_move; exact rfl; with_reducible (conv => enter [6, 3]; whnf)
        apply wr_nil
        exact ⟨rfl, rfl⟩
      apply ch_step
      focus
        intro w' hS
        subst hS
        refine wr_indexAddr (i := i) rfl rfl rfl (by omega) ?_
        apply wr_nil
        exact ⟨rfl, rfl⟩
      apply ch_step
      focus
        intro w' hS
        subst hS
        refine wr_loadElem (G := GA) (n := m.length) rfl rfl GA_len rfl hb2' hr' (by omega) hq rfl ?_
        apply wr_nil
        exact ⟨rfl, rfl⟩
      apply ch_step
      focus
        intro w' hS
        subst hS
        refine wr_structNe (c := cc) rfl rfl rfl addr_stood addr_guard (addr_eqOk p q _) (by rw [hcc]; (obtain ⟨p1, p2, p3⟩ := p; obtain ⟨q1, q2, q3⟩ := q; simp [List.all_cons, Prod.mk.injEq, Bool.decide_and, Int.ofNat_inj])) ?_
        apply wr_nil
        exact ⟨rfl, rfl⟩
      refine ch_nil ?_
      intro w' hS
      subst hS
      by_cases he : p = q
      · rw [decide_eq_true he] at hcc
        subst hcc
        (repeat first | (apply wr_move; exact rfl; with_reducible (conv => enter [6, 3]; whnf)) | apply wr_end | apply wc_region | apply wc_skip | (apply wr_add; (iterate 3 exact rfl); exact w_fit (by dsimp only [kIn]; first | done | omega)) | (apply wc_false; exact rfl))
        refine ⟨i + 1, by omega, ⟨by trivial, hlt, ?_, hk2.drew⟩, rfl, rfl, rfl, by simp, trivial⟩
        rw [List.take_add_one, List.take_add_one, hp, hq, hpre, he]
      · rw [decide_eq_false he] at hcc
        subst hcc
        (repeat first | (apply wr_assign; exact rfl; with_reducible (conv => enter [6, 3]; whnf)) | apply wr_end | apply wc_seq | apply wc_region | (apply wc_true; exact rfl) | (apply wc_ret; try simp only [thenE, inBlockE, bodyQ]))
        refine leave1 (v := .bool false) rfl rfl ⟨?_, hk2.drew⟩
        rw [decide_eq_false]
        intro h
        rw [h, hq] at hp
        exact he (Option.some.inj hp).symm
    · have he : i = l.length := by omega
      subst he
      rw [List.take_length, List.take_of_length_le (by omega)] at hpre
      (repeat first | (apply wr_assign; exact rfl; with_reducible (conv => enter [6, 3]; whnf)) | apply wr_end | apply wc_seq | apply wc_region | (apply wr_cmp; (iterate 3 exact rfl); exact cmpF (by dsimp only [cmpN]; first | done | omega)) | (apply wc_false; exact rfl) | (apply wc_exit; try simp only [thenE, inBlockE, bodyQ, ↓reduceIte, Nat.reduceEqDiff]) | (apply wc_ret; try simp only [thenE, inBlockE, bodyQ]))
      exact leave1 (v := .bool true) rfl rfl ⟨by rw [decide_eq_true hpre], hk2⟩
  · (repeat first | (apply wr_move; exact rfl; with_reducible (conv => enter [6, 3]; whnf)) | (apply wr_assign; exact rfl; with_reducible (conv => enter [6, 3]; whnf)) | apply wr_end | apply wc_seq | apply wc_region | (apply wr_len_slice; iterate 2 exact rfl) | (apply wr_cmp; (iterate 3 exact rfl); exact cmpT (by dsimp only [cmpP]; first | done | omega)) | (apply wc_true; exact rfl) | (apply wc_ret; try simp only [thenE, inBlockE, bodyQ]))
    exact leave1 (v := .bool false) rfl rfl ⟨by rw [decide_eq_false (fun h => hlm (by rw [h]))], Keeps.refl _ _⟩

abbrev restV (p : PL) : Value := .agg #[.iface 9 (S p.name), .iface 22 (.int .u64 (p.port : Int)), .iface 9 (S p.route), .iface 22 (.int .u64 (p.policy : Int)), .iface 9 (S p.secret), .iface 9 (S p.key)]
def restL (p : PL) : List Value := [.iface 9 (S p.name), .iface 22 (.int .u64 (p.port : Int)), .iface 9 (S p.route), .iface 22 (.int .u64 (p.policy : Int)), .iface 9 (S p.secret), .iface 9 (S p.key)]
set_option maxRecDepth 100000 in
set_option maxHeartbeats 1000000 in
theorem rest_ca (p : PL) (rv av : Value) (hr : rv.oneCell' = true) (ha : av.oneCell' = true) (w : World) :
    Ca Tryd.prog 43 #[PlV p rv av] w fun v w' => v = restV p ∧ Keeps NoB w w' := by
  refine ca_of_body (args := [PlV p rv av]) Tryd.func43 rfl (by kernel_rfl) ?_
  (repeat first | apply wr_end | apply wc_seq | apply wc_region | (apply wr_fieldAddr; iterate 2 exact rfl) | (apply wr_box; iterate 2 exact rfl) | (apply wr_load; (iterate 3 exact rfl); (focus repeat first | with_reducible assumption | exact heap_alloc_same _ _ | exact World.putObj_heap_same (by first | omega | (simp only [World.size_alloc, World.putObj_size, ne_eq]; omega)) | ((first | refine hAl ?_ ?_ | refine hPu ?_ ?_); focus first | omega | (simp only [World.size_alloc, World.putObj_size, ne_eq]; omega))); exact rfl; conv => enter [6, 3]; whnf) | (apply wr_alloc; exact rfl))
  refine wr_makeIface rfl rfl rfl ?_
  (repeat first | (apply wr_fieldAddr; iterate 2 exact rfl) | (apply wr_load; (iterate 3 exact rfl); (focus repeat first | with_reducible assumption | exact heap_alloc_same _ _ | exact World.putObj_heap_same (by first | omega | (simp only [World.size_alloc, World.putObj_size, ne_eq]; omega)) | ((first | refine hAl ?_ ?_ | refine hPu ?_ ?_); focus first | omega | (simp only [World.size_alloc, World.putObj_size, ne_eq]; omega))); exact rfl; conv => enter [6, 3]; whnf))
  refine wr_makeIface rfl rfl rfl ?_
  (repeat first | (apply wr_fieldAddr; iterate 2 exact rfl) | (apply wr_load; (iterate 3 exact rfl); (focus repeat first | with_reducible assumption | exact heap_alloc_same _ _ | exact World.putObj_heap_same (by first | omega | (simp only [World.size_alloc, World.putObj_size, ne_eq]; omega)) | ((first | refine hAl ?_ ?_ | refine hPu ?_ ?_); focus first | omega | (simp only [World.size_alloc, World.putObj_size, ne_eq]; omega))); exact rfl; conv => enter [6, 3]; whnf))
  refine wr_makeIface rfl rfl rfl ?_
  (repeat first | (apply wr_fieldAddr; iterate 2 exact rfl) | (apply wr_load; (iterate 3 exact rfl); (focus repeat first | with_reducible assumption | exact heap_alloc_same _ _ | exact World.putObj_heap_same (by first | omega | (simp only [World.size_alloc, World.putObj_size, ne_eq]; omega)) | ((first | refine hAl ?_ ?_ | refine hPu ?_ ?_); focus first | omega | (simp only [World.size_alloc, World.putObj_size, ne_eq]; omega))); exact rfl; conv => enter [6, 3]; whnf))
  refine wr_makeIface rfl rfl rfl ?_
  (repeat first | (apply wr_fieldAddr; iterate 2 exact rfl) | (apply wr_load; (iterate 3 exact rfl); (focus repeat first | with_reducible assumption | exact heap_alloc_same _ _ | exact World.putObj_heap_same (by first | omega | (simp only [World.size_alloc, World.putObj_size, ne_eq]; omega)) | ((first | refine hAl ?_ ?_ | refine hPu ?_ ?_); focus first | omega | (simp only [World.size_alloc, World.putObj_size, ne_eq]; omega))); exact rfl; conv => enter [6, 3]; whnf))
  refine wr_makeIface rfl rfl rfl ?_
  (repeat first | (apply wr_fieldAddr; iterate 2 exact rfl) | (apply wr_load; (iterate 3 exact rfl); (focus repeat first | with_reducible assumption | exact heap_alloc_same _ _ | exact World.putObj_heap_same (by first | omega | (simp only [World.size_alloc, World.putObj_size, ne_eq]; omega)) | ((first | refine hAl ?_ ?_ | refine hPu ?_ ?_); focus first | omega | (simp only [World.size_alloc, World.putObj_size, ne_eq]; omega))); exact rfl; conv => enter [6, 3]; whnf))
  refine wr_makeIface rfl rfl rfl ?_
  refine wr_buildArr (vs := restL p) rfl rfl (by intro v hv; simp [restL] at hv; rcases hv with rfl | rfl | rfl | rfl | rfl | rfl <;> rfl) rfl ?_
  refine wr_storeAll (cs := restL p) rfl rfl rfl (by intro v hv; simp [restL] at hv; rcases hv with rfl | rfl | rfl | rfl | rfl | rfl <;> rfl) (heap_alloc_same _ _) rfl rfl ?_
  (repeat first | apply wr_end | (apply wc_ret; try simp only [thenE, inBlockE, bodyQ]))
  exact leaveN (vs := [.agg (restL p).toArray]) (resv_cells rfl rfl (World.putObj_heap_same (by simp)) rfl resv_nil) ⟨rfl, (((Keeps.refl NoB w).alloc _).alloc _).put _ (fun h => by simp only [World.size_alloc] at h; omega)⟩
def restR (a b : PL) : Nat → Bool
  | 0 => decide (a.name = b.name)
  | 1 => decide ((a.port : Int) = (b.port : Int))
  | 2 => decide (a.route = b.route)
  | 3 => decide ((a.policy : Int) = (b.policy : Int))
  | 4 => decide (a.secret = b.secret)
  | 5 => decide (a.key = b.key)
  | _ => false
def sameB (a b : PL) : Bool := decide (a.rules = b.rules) && (decide (a.addrs = b.addrs) && (List.range 6).all (restR a b))
theorem sameB_iff (a b : PL) : sameB a b = true ↔ a = b := by
  obtain ⟨a1, a2, a3, a4, a5, a6, a7, a8⟩ := a
  obtain ⟨b1, b2, b3, b4, b5, b6, b7, b8⟩ := b
  unfold sameB
  rw [show List.range 6 = [0, 1, 2, 3, 4, 5] from rfl]
  simp only [List.all_cons, List.all_nil, restR, Bool.and_eq_true, decide_eq_true_eq, PL.mk.injEq, Int.ofNat_inj]
  constructor
  · rintro ⟨h1, h2, h3, h4, h5, h6, h7, h8, _⟩; exact ⟨h3, h4, h5, h1, h6, h7, h2, h8⟩
  · rintro ⟨h3, h4, h5, h1, h6, h7, h2, h8⟩; exact ⟨h1, h2, h3, h4, h5, h6, h7, h8, trivial⟩
theorem arr_guard : Tryd.prog.eqGuardType Tryd.prog.depth 96 = false := by kernel_rfl
theorem strCmp : (Tryd.prog.info? 9).map (·.comparable) = some true := by kernel_rfl
theorem u64Cmp : (Tryd.prog.info? 22).map (·.comparable) = some true := by kernel_rfl
theorem rest_eq (a b : PL) (w : World) (i : Nat) (h : i < 6) : ∃ x y, (part 20 (restL a).toArray i).run Tryd.prog w = .ok x w ∧ (part 20 (restL b).toArray i).run Tryd.prog w = .ok y w ∧ (Op.equalIn 9999 20 x y).run Tryd.prog w = .ok (restR a b i) w := by
  match i, h with
  | 0, _ => exact ⟨_, _, run_part1 Tryd.underlying20 rfl rfl, run_part1 Tryd.underlying20 rfl rfl, equalIn_if_same 9998 Tryd.underlying20 strCmp (equalIn_str 9997 inferInstance _ _ _)⟩
  | 1, _ => exact ⟨_, _, run_part1 Tryd.underlying20 rfl rfl, run_part1 Tryd.underlying20 rfl rfl, equalIn_if_same 9998 Tryd.underlying20 u64Cmp (equalIn_int 9997 inferInstance _ _ _)⟩
  | 2, _ => exact ⟨_, _, run_part1 Tryd.underlying20 rfl rfl, run_part1 Tryd.underlying20 rfl rfl, equalIn_if_same 9998 Tryd.underlying20 strCmp (equalIn_str 9997 inferInstance _ _ _)⟩
  | 3, _ => exact ⟨_, _, run_part1 Tryd.underlying20 rfl rfl, run_part1 Tryd.underlying20 rfl rfl, equalIn_if_same 9998 Tryd.underlying20 u64Cmp (equalIn_int 9997 inferInstance _ _ _)⟩
  | 4, _ => exact ⟨_, _, run_part1 Tryd.underlying20 rfl rfl, run_part1 Tryd.underlying20 rfl rfl, equalIn_if_same 9998 Tryd.underlying20 strCmp (equalIn_str 9997 inferInstance _ _ _)⟩
  | 5, _ => exact ⟨_, _, run_part1 Tryd.underlying20 rfl rfl, run_part1 Tryd.underlying20 rfl rfl, equalIn_if_same 9998 Tryd.underlying20 strCmp (equalIn_str 9997 inferInstance _ _ _)⟩
set_option maxRecDepth 100000 in
set_option maxHeartbeats 1000000 in
theorem same_ca (a b : PL) (ha : a.rules.length ≤ 1000000000000 ∧ a.addrs.length ≤ 1000000000000) (hb : b.rules.length ≤ 1000000000000 ∧ b.addrs.length ≤ 1000000000000) (rv av rv' av' : Value) (w : World) (hs : PlS w a rv av) (hs' : PlS w b rv' av') :
    Ca Tryd.prog 24 #[PlV a rv av, PlV b rv' av'] w fun v w' => v = .bool (sameB a b) ∧ Keeps NoB w w' := by
  have hr1 := slR_one hs.r
  have ha1 := slR_one hs.a
  have hr1' := slR_one hs'.r
  have ha1' := slR_one hs'.a
  refine ca_of_body (args := [PlV a rv av, PlV b rv' av']) Tryd.func24 rfl (by kernel_rfl) ?_
  apply wc_seq
  apply wc_region
  refine wr_box (v := PlV a rv av) rfl rfl ?_
  refine wr_box (v := PlV b rv' av') rfl rfl ?_
  (repeat first | (apply wr_assign; exact rfl; with_reducible (conv => enter [6, 3]; whnf)) | apply wr_end | apply wc_seq | apply wc_region)
  obtain ⟨w1, hw1⟩ : ∃ w1, w1 = (w.alloc (.cells (PlV a rv av).cells 26)).alloc (.cells (PlV b rv' av').cells 26) := ⟨_, rfl⟩
  have hk1 : Keeps NoB w w1 := by rw [hw1]; exact ((Keeps.refl NoB w).alloc _).alloc _
  obtain ⟨pb, hpb⟩ : ∃ pb, pb = (w.alloc (.cells (PlV a rv av).cells 26)).heap.size := ⟨_, rfl⟩
  have hbB : w1.heap[pb]? = some (.cells (PlC b rv' av').toArray 26 (0, 0)) := by rw [hw1, hpb]; exact heap_alloc_same _ _
  obtain ⟨pa, hpa⟩ : ∃ pa, pa = w.heap.size := ⟨_, rfl⟩
  have hbA : w1.heap[pa]? = some (.cells (PlC a rv av).toArray 26 (0, 0)) := by
    rw [hw1, hpa, heap_alloc_ne _ _ (by simp only [World.size_alloc]; omega)]; exact heap_alloc_same _ _
  rw [← hw1, ← hpb, ← hpa]
  refine wc_drawS (l := _) (S := fun w' => Keeps NoB w1 w') (by kernel_rfl) (by kernel_rfl) ((Keeps.refl NoB w1).drew) ?_
  by_cases hr : a.rules = b.rules
  · skip
    apply ch_step
    focus
      intro w' hS
      have hA := hS.heap hbA (fun h => h)
      have hB := hS.heap hbB (fun h => h)
      first
        | (refine wr_loadAll (cs := PlC a rv av) rfl rfl rfl hA rfl ?_; apply wr_nil; exact ⟨rfl, hS⟩)
        | (refine wr_loadAll (cs := PlC b rv' av') rfl rfl rfl hB rfl ?_; apply wr_nil; exact ⟨rfl, hS⟩)
        | ((repeat first | (apply wr_fieldAddr; iterate 2 exact rfl) | (apply wr_nil; try simp only [thenE, inBlockE, bodyQ])); exact ⟨rfl, hS⟩)
    apply ch_step
    focus
      intro w' hS
      have hA := hS.heap hbA (fun h => h)
      have hB := hS.heap hbB (fun h => h)
      first
        | (refine wr_loadAll (cs := PlC a rv av) rfl rfl rfl hA rfl ?_; apply wr_nil; exact ⟨rfl, hS⟩)
        | (refine wr_loadAll (cs := PlC b rv' av') rfl rfl rfl hB rfl ?_; apply wr_nil; exact ⟨rfl, hS⟩)
        | ((repeat first | (apply wr_load; (iterate 3 exact rfl); (focus repeat first | with_reducible assumption | exact heap_alloc_same _ _ | exact World.putObj_heap_same (by first | omega | (simp only [World.size_alloc, World.putObj_size, ne_eq]; omega)) | ((first | refine hAl ?_ ?_ | refine hPu ?_ ?_); focus first | omega | (simp only [World.size_alloc, World.putObj_size, ne_eq]; omega))); exact rfl; conv => enter [6, 3]; whnf) | (apply wr_nil; try simp only [thenE, inBlockE, bodyQ])); exact ⟨rfl, hS⟩)
    apply ch_step
    focus
      intro w' hS
      have hA := hS.heap hbA (fun h => h)
      have hB := hS.heap hbB (fun h => h)
      first
        | (refine wr_loadAll (cs := PlC a rv av) rfl rfl rfl hA rfl ?_; apply wr_nil; exact ⟨rfl, hS⟩)
        | (refine wr_loadAll (cs := PlC b rv' av') rfl rfl rfl hB rfl ?_; apply wr_nil; exact ⟨rfl, hS⟩)
        | ((repeat first | (apply wr_fieldAddr; iterate 2 exact rfl) | (apply wr_nil; try simp only [thenE, inBlockE, bodyQ])); exact ⟨rfl, hS⟩)
    apply ch_step
    focus
      intro w' hS
      have hA := hS.heap hbA (fun h => h)
      have hB := hS.heap hbB (fun h => h)
      first
        | (refine wr_loadAll (cs := PlC a rv av) rfl rfl rfl hA rfl ?_; apply wr_nil; exact ⟨rfl, hS⟩)
        | (refine wr_loadAll (cs := PlC b rv' av') rfl rfl rfl hB rfl ?_; apply wr_nil; exact ⟨rfl, hS⟩)
        | ((repeat first | (apply wr_load; (iterate 3 exact rfl); (focus repeat first | with_reducible assumption | exact heap_alloc_same _ _ | exact World.putObj_heap_same (by first | omega | (simp only [World.size_alloc, World.putObj_size, ne_eq]; omega)) | ((first | refine hAl ?_ ?_ | refine hPu ?_ ?_); focus first | omega | (simp only [World.size_alloc, World.putObj_size, ne_eq]; omega))); exact rfl; conv => enter [6, 3]; whnf) | (apply wr_nil; try simp only [thenE, inBlockE, bodyQ])); exact ⟨rfl, hS⟩)
    apply ch_step
    focus
      intro w' hS
      refine wr_call (vs := [rv, rv']) rfl (ruleEqual_ca a.rules b.rules rv rv' w' (hs.kin (hk1.trans hS)).r (hs'.kin (hk1.trans hS)).r ha.1 hb.1) rfl  ?_
      rintro v w4 ⟨rfl, hk⟩
      apply wr_nil
      exact ⟨rfl, hS.trans hk⟩
    rw [decide_eq_true hr]
    apply ch_step
    focus
      intro w' hS
      have hA := hS.heap hbA (fun h => h)
      have hB := hS.heap hbB (fun h => h)
      first
        | (refine wr_loadAll (cs := PlC a rv av) rfl rfl rfl hA rfl ?_; apply wr_nil; exact ⟨rfl, hS⟩)
        | (refine wr_loadAll (cs := PlC b rv' av') rfl rfl rfl hB rfl ?_; apply wr_nil; exact ⟨rfl, hS⟩)
        | ((repeat first | (apply wr_move; exact rfl; with_reducible (conv => enter [6, 3]; whnf)) | (apply wr_nil; try simp only [thenE, inBlockE, bodyQ])); exact ⟨rfl, hS⟩)
    apply ch_step
    focus
      intro w' hS
      have hA := hS.heap hbA (fun h => h)
      have hB := hS.heap hbB (fun h => h)
      first
        | (refine wr_loadAll (cs := PlC a rv av) rfl rfl rfl hA rfl ?_; apply wr_nil; exact ⟨rfl, hS⟩)
        | (refine wr_loadAll (cs := PlC b rv' av') rfl rfl rfl hB rfl ?_; apply wr_nil; exact ⟨rfl, hS⟩)
        | ((repeat first | (apply wr_fieldAddr; iterate 2 exact rfl) | (apply wr_nil; try simp only [thenE, inBlockE, bodyQ])); exact ⟨rfl, hS⟩)
    apply ch_step
    focus
      intro w' hS
      have hA := hS.heap hbA (fun h => h)
      have hB := hS.heap hbB (fun h => h)
      first
        | (refine wr_loadAll (cs := PlC a rv av) rfl rfl rfl hA rfl ?_; apply wr_nil; exact ⟨rfl, hS⟩)
        | (refine wr_loadAll (cs := PlC b rv' av') rfl rfl rfl hB rfl ?_; apply wr_nil; exact ⟨rfl, hS⟩)
        | ((repeat first | (apply wr_load; (iterate 3 exact rfl); (focus repeat first | with_reducible assumption | exact heap_alloc_same _ _ | exact World.putObj_heap_same (by first | omega | (simp only [World.size_alloc, World.putObj_size, ne_eq]; omega)) | ((first | refine hAl ?_ ?_ | refine hPu ?_ ?_); focus first | omega | (simp only [World.size_alloc, World.putObj_size, ne_eq]; omega))); exact rfl; conv => enter [6, 3]; whnf) | (apply wr_nil; try simp only [thenE, inBlockE, bodyQ])); exact ⟨rfl, hS⟩)
    apply ch_step
    focus
      intro w' hS
      have hA := hS.heap hbA (fun h => h)
      have hB := hS.heap hbB (fun h => h)
      first
        | (refine wr_loadAll (cs := PlC a rv av) rfl rfl rfl hA rfl ?_; apply wr_nil; exact ⟨rfl, hS⟩)
        | (refine wr_loadAll (cs := PlC b rv' av') rfl rfl rfl hB rfl ?_; apply wr_nil; exact ⟨rfl, hS⟩)
        | ((repeat first | (apply wr_fieldAddr; iterate 2 exact rfl) | (apply wr_nil; try simp only [thenE, inBlockE, bodyQ])); exact ⟨rfl, hS⟩)
    apply ch_step
    focus
      intro w' hS
      have hA := hS.heap hbA (fun h => h)
      have hB := hS.heap hbB (fun h => h)
      first
        | (refine wr_loadAll (cs := PlC a rv av) rfl rfl rfl hA rfl ?_; apply wr_nil; exact ⟨rfl, hS⟩)
        | (refine wr_loadAll (cs := PlC b rv' av') rfl rfl rfl hB rfl ?_; apply wr_nil; exact ⟨rfl, hS⟩)
        | ((repeat first | (apply wr_load; (iterate 3 exact rfl); (focus repeat first | with_reducible assumption | exact heap_alloc_same _ _ | exact World.putObj_heap_same (by first | omega | (simp only [World.size_alloc, World.putObj_size, ne_eq]; omega)) | ((first | refine hAl ?_ ?_ | refine hPu ?_ ?_); focus first | omega | (simp only [World.size_alloc, World.putObj_size, ne_eq]; omega))); exact rfl; conv => enter [6, 3]; whnf) | (apply wr_nil; try simp only [thenE, inBlockE, bodyQ])); exact ⟨rfl, hS⟩)
    apply ch_step
    focus
      intro w' hS
      refine wr_call (vs := [av, av']) rfl (addrEqual_ca a.addrs b.addrs av av' w' (hs.kin (hk1.trans hS)).a (hs'.kin (hk1.trans hS)).a ha.2 hb.2) rfl  ?_
      rintro v w4 ⟨rfl, hk⟩
      apply wr_nil
      exact ⟨rfl, hS.trans hk⟩
    by_cases hd : a.addrs = b.addrs
    · rw [decide_eq_true hd]
      apply ch_step
      focus
        intro w' hS
        have hA := hS.heap hbA (fun h => h)
        have hB := hS.heap hbB (fun h => h)
        first
          | (refine wr_loadAll (cs := PlC a rv av) rfl rfl rfl hA rfl ?_; apply wr_nil; exact ⟨rfl, hS⟩)
          | (refine wr_loadAll (cs := PlC b rv' av') rfl rfl rfl hB rfl ?_; apply wr_nil; exact ⟨rfl, hS⟩)
          | ((repeat first | (apply wr_pick (t := true); (iterate 2 exact rfl); with_reducible (conv => enter [6, 3]; whnf)) | (apply wr_nil; try simp only [thenE, inBlockE, bodyQ])); exact ⟨rfl, hS⟩)
      apply ch_step
      focus
        intro w' hS
        have hA := hS.heap hbA (fun h => h)
        have hB := hS.heap hbB (fun h => h)
        first
          | (refine wr_loadAll (cs := PlC a rv av) rfl rfl rfl hA rfl ?_; apply wr_nil; exact ⟨rfl, hS⟩)
          | (refine wr_loadAll (cs := PlC b rv' av') rfl rfl rfl hB rfl ?_; apply wr_nil; exact ⟨rfl, hS⟩)
          | ((repeat first | (apply wr_move; exact rfl; with_reducible (conv => enter [6, 3]; whnf)) | (apply wr_nil; try simp only [thenE, inBlockE, bodyQ])); exact ⟨rfl, hS⟩)
      apply ch_step
      focus
        intro w' hS
        have hA := hS.heap hbA (fun h => h)
        have hB := hS.heap hbB (fun h => h)
        first
          | (refine wr_loadAll (cs := PlC a rv av) rfl rfl rfl hA rfl ?_; apply wr_nil; exact ⟨rfl, hS⟩)
          | (refine wr_loadAll (cs := PlC b rv' av') rfl rfl rfl hB rfl ?_; apply wr_nil; exact ⟨rfl, hS⟩)
          | ((repeat first | (apply wr_move; exact rfl; with_reducible (conv => enter [6, 3]; whnf)) | (apply wr_nil; try simp only [thenE, inBlockE, bodyQ])); exact ⟨rfl, hS⟩)
      apply ch_step
      focus
        intro w' hS
        have hA := hS.heap hbA (fun h => h)
        have hB := hS.heap hbB (fun h => h)
        first
          | (refine wr_loadAll (cs := PlC a rv av) rfl rfl rfl hA rfl ?_; apply wr_nil; exact ⟨rfl, hS⟩)
          | (refine wr_loadAll (cs := PlC b rv' av') rfl rfl rfl hB rfl ?_; apply wr_nil; exact ⟨rfl, hS⟩)
          | (skip; exact ⟨rfl, hS⟩)
      apply ch_step
      focus
        intro w' hS
        refine wr_callv (vs := [PlV a rv av]) rfl (callV_of (args := [PlV a rv av]) (by kernel_rfl) (rest_ca a rv av hr1 ha1 w')) rfl rfl ?_
        rintro v w4 ⟨rfl, hk⟩
        apply wr_nil
        exact ⟨rfl, hS.trans hk⟩
      apply ch_step
      focus
        intro w' hS
        have hA := hS.heap hbA (fun h => h)
        have hB := hS.heap hbB (fun h => h)
        first
          | (refine wr_loadAll (cs := PlC a rv av) rfl rfl rfl hA rfl ?_; apply wr_nil; exact ⟨rfl, hS⟩)
          | (refine wr_loadAll (cs := PlC b rv' av') rfl rfl rfl hB rfl ?_; apply wr_nil; exact ⟨rfl, hS⟩)
          | ((repeat first | (apply wr_move; exact rfl; with_reducible (conv => enter [6, 3]; whnf)) | (apply wr_nil; try simp only [thenE, inBlockE, bodyQ])); exact ⟨rfl, hS⟩)
      apply ch_step
      focus
        intro w' hS
        have hA := hS.heap hbA (fun h => h)
        have hB := hS.heap hbB (fun h => h)
        first
          | (refine wr_loadAll (cs := PlC a rv av) rfl rfl rfl hA rfl ?_; apply wr_nil; exact ⟨rfl, hS⟩)
          | (refine wr_loadAll (cs := PlC b rv' av') rfl rfl rfl hB rfl ?_; apply wr_nil; exact ⟨rfl, hS⟩)
          | (skip; exact ⟨rfl, hS⟩)
      apply ch_step
      focus
        intro w' hS
        refine wr_callv (vs := [PlV b rv' av']) rfl (callV_of (args := [PlV b rv' av']) (by kernel_rfl) (rest_ca b rv' av' hr1' ha1' w')) rfl rfl ?_
        rintro v w4 ⟨rfl, hk⟩
        apply wr_nil
        exact ⟨rfl, hS.trans hk⟩
      apply ch_step
      focus
        intro w' hS
        refine wr_arrEq (rs := restR a b) (xs := (restL a).toArray) (ys := (restL b).toArray) rfl rfl rfl arr_guard (rest_eq a b w') rfl ?_
        apply wr_nil
        exact ⟨rfl, hS⟩
      apply ch_step
      focus
        intro w' hS
        have hA := hS.heap hbA (fun h => h)
        have hB := hS.heap hbB (fun h => h)
        first
          | (refine wr_loadAll (cs := PlC a rv av) rfl rfl rfl hA rfl ?_; apply wr_nil; exact ⟨rfl, hS⟩)
          | (refine wr_loadAll (cs := PlC b rv' av') rfl rfl rfl hB rfl ?_; apply wr_nil; exact ⟨rfl, hS⟩)
          | ((repeat first | (apply wr_pick (t := true); (iterate 2 exact rfl); with_reducible (conv => enter [6, 3]; whnf)) | (apply wr_nil; try simp only [thenE, inBlockE, bodyQ])); exact ⟨rfl, hS⟩)
      apply ch_step
      focus
        intro w' hS
        have hA := hS.heap hbA (fun h => h)
        have hB := hS.heap hbB (fun h => h)
        first
          | (refine wr_loadAll (cs := PlC a rv av) rfl rfl rfl hA rfl ?_; apply wr_nil; exact ⟨rfl, hS⟩)
          | (refine wr_loadAll (cs := PlC b rv' av') rfl rfl rfl hB rfl ?_; apply wr_nil; exact ⟨rfl, hS⟩)
          | ((repeat first | (apply wr_assign; exact rfl; with_reducible (conv => enter [6, 3]; whnf)) | (apply wr_nil; try simp only [thenE, inBlockE, bodyQ])); exact ⟨rfl, hS⟩)
      refine ch_nil ?_
      intro w' hS
      (repeat first | (apply wc_ret; try simp only [thenE, inBlockE, bodyQ]))
      exact leave1 (v := .bool (sameB a b)) rfl (by unfold sameB; rw [decide_eq_true hr, decide_eq_true hd]; rfl) ⟨rfl, hk1.trans hS⟩
    · rw [decide_eq_false hd]
      repeat
        apply ch_step
        focus
          intro w' hS
          have hA := hS.heap hbA (fun h => h)
          have hB := hS.heap hbB (fun h => h)
          first
            | (refine wr_loadAll (cs := PlC a rv av) rfl rfl rfl hA rfl ?_; apply wr_nil; exact ⟨rfl, hS⟩)
            | (refine wr_loadAll (cs := PlC b rv' av') rfl rfl rfl hB rfl ?_; apply wr_nil; exact ⟨rfl, hS⟩)
            | ((repeat first | (apply wr_move; exact rfl; with_reducible (conv => enter [6, 3]; whnf)) | (apply wr_assign; exact rfl; with_reducible (conv => enter [6, 3]; whnf)) | (apply wr_pick (t := true); (iterate 2 exact rfl); with_reducible (conv => enter [6, 3]; whnf)) | (apply wr_pick (t := false); (iterate 2 exact rfl); with_reducible (conv => enter [6, 3]; whnf)) | (apply wr_nil; try simp only [thenE, inBlockE, bodyQ]) | (apply wr_skip; exact rfl)); exact ⟨rfl, hS⟩)
      refine ch_nil ?_
      intro w' hS
      (repeat first | (apply wc_ret; try simp only [thenE, inBlockE, bodyQ]))
      exact leave1 (v := .bool (sameB a b)) rfl (by unfold sameB; rw [decide_eq_true hr, decide_eq_false hd]; rfl) ⟨rfl, hk1.trans hS⟩
  · skip
    apply ch_step
    focus
      intro w' hS
      have hA := hS.heap hbA (fun h => h)
      have hB := hS.heap hbB (fun h => h)
      first
        | (refine wr_loadAll (cs := PlC a rv av) rfl rfl rfl hA rfl ?_; apply wr_nil; exact ⟨rfl, hS⟩)
        | (refine wr_loadAll (cs := PlC b rv' av') rfl rfl rfl hB rfl ?_; apply wr_nil; exact ⟨rfl, hS⟩)
        | ((repeat first | (apply wr_fieldAddr; iterate 2 exact rfl) | (apply wr_nil; try simp only [thenE, inBlockE, bodyQ])); exact ⟨rfl, hS⟩)
    apply ch_step
    focus
      intro w' hS
      have hA := hS.heap hbA (fun h => h)
      have hB := hS.heap hbB (fun h => h)
      first
        | (refine wr_loadAll (cs := PlC a rv av) rfl rfl rfl hA rfl ?_; apply wr_nil; exact ⟨rfl, hS⟩)
        | (refine wr_loadAll (cs := PlC b rv' av') rfl rfl rfl hB rfl ?_; apply wr_nil; exact ⟨rfl, hS⟩)
        | ((repeat first | (apply wr_load; (iterate 3 exact rfl); (focus repeat first | with_reducible assumption | exact heap_alloc_same _ _ | exact World.putObj_heap_same (by first | omega | (simp only [World.size_alloc, World.putObj_size, ne_eq]; omega)) | ((first | refine hAl ?_ ?_ | refine hPu ?_ ?_); focus first | omega | (simp only [World.size_alloc, World.putObj_size, ne_eq]; omega))); exact rfl; conv => enter [6, 3]; whnf) | (apply wr_nil; try simp only [thenE, inBlockE, bodyQ])); exact ⟨rfl, hS⟩)
    apply ch_step
    focus
      intro w' hS
      have hA := hS.heap hbA (fun h => h)
      have hB := hS.heap hbB (fun h => h)
      first
        | (refine wr_loadAll (cs := PlC a rv av) rfl rfl rfl hA rfl ?_; apply wr_nil; exact ⟨rfl, hS⟩)
        | (refine wr_loadAll (cs := PlC b rv' av') rfl rfl rfl hB rfl ?_; apply wr_nil; exact ⟨rfl, hS⟩)
        | ((repeat first | (apply wr_fieldAddr; iterate 2 exact rfl) | (apply wr_nil; try simp only [thenE, inBlockE, bodyQ])); exact ⟨rfl, hS⟩)
    apply ch_step
    focus
      intro w' hS
      have hA := hS.heap hbA (fun h => h)
      have hB := hS.heap hbB (fun h => h)
      first
        | (refine wr_loadAll (cs := PlC a rv av) rfl rfl rfl hA rfl ?_; apply wr_nil; exact ⟨rfl, hS⟩)
        | (refine wr_loadAll (cs := PlC b rv' av') rfl rfl rfl hB rfl ?_; apply wr_nil; exact ⟨rfl, hS⟩)
        | ((repeat first | (apply wr_load; (iterate 3 exact rfl); (focus repeat first | with_reducible assumption | exact heap_alloc_same _ _ | exact World.putObj_heap_same (by first | omega | (simp only [World.size_alloc, World.putObj_size, ne_eq]; omega)) | ((first | refine hAl ?_ ?_ | refine hPu ?_ ?_); focus first | omega | (simp only [World.size_alloc, World.putObj_size, ne_eq]; omega))); exact rfl; conv => enter [6, 3]; whnf) | (apply wr_nil; try simp only [thenE, inBlockE, bodyQ])); exact ⟨rfl, hS⟩)
    apply ch_step
    focus
      intro w' hS
      refine wr_call (vs := [rv, rv']) rfl (ruleEqual_ca a.rules b.rules rv rv' w' (hs.kin (hk1.trans hS)).r (hs'.kin (hk1.trans hS)).r ha.1 hb.1) rfl  ?_
      rintro v w4 ⟨rfl, hk⟩
      apply wr_nil
      exact ⟨rfl, hS.trans hk⟩
    rw [decide_eq_false hr]
    repeat
      apply ch_step
      focus
        intro w' hS
        have hA := hS.heap hbA (fun h => h)
        have hB := hS.heap hbB (fun h => h)
        first
          | (refine wr_loadAll (cs := PlC a rv av) rfl rfl rfl hA rfl ?_; apply wr_nil; exact ⟨rfl, hS⟩)
          | (refine wr_loadAll (cs := PlC b rv' av') rfl rfl rfl hB rfl ?_; apply wr_nil; exact ⟨rfl, hS⟩)
          | ((repeat first | (apply wr_move; exact rfl; with_reducible (conv => enter [6, 3]; whnf)) | (apply wr_assign; exact rfl; with_reducible (conv => enter [6, 3]; whnf)) | (apply wr_pick (t := false); (iterate 2 exact rfl); with_reducible (conv => enter [6, 3]; whnf)) | (apply wr_nil; try simp only [thenE, inBlockE, bodyQ]) | (apply wr_skip; exact rfl)); exact ⟨rfl, hS⟩)
    refine ch_nil ?_
    intro w' hS
    (repeat first | (apply wc_ret; try simp only [thenE, inBlockE, bodyQ]))
    exact leave1 (v := .bool (sameB a b)) rfl (by unfold sameB; rw [decide_eq_false hr]; rfl) ⟨rfl, hk1.trans hS⟩
end Go.Proofs.YthlbgeonobicbaaDoor

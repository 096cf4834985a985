/- A deed: its key; the two lists of notes beside one another. -/
import Derived.Test.YtjaojihogmnjhaaGreatDoorJh
namespace Go.Proofs.YtjaojihogmnjhaaGreatDoor
open Go Go.V Go.RowKit
set_option linter.unusedVariables false
set_option linter.unusedSimpArgs false

/- The head: $1 after New. -/
/- A set of a few: $1 slice, $2 bytes, $3 world, $4 stem, $5 SlR, $6 bytes small, $7 how many. -/
/-- A deed: kind, id, name, version, taken, text, who wants it, near. -/
structure DE where
  kind : Nat
  id : Int
  name : Nat
  seq : Nat
  ok : Bool
  s : TT
  wv : Value
  wl : List Int
  near : Bool
def GDe (x : DE) : List Value := [.int .u8 ((x.kind : Nat) : Int), .int .i64 x.id, .int .u8 ((x.name : Nat) : Int), .int .u64 ((x.seq : Nat) : Int), .bool x.ok, S x.s, x.wv, .bool x.near]
theorem GDe_len (x : DE) : (GDe x).length = 8 := rfl
structure deOk (W : World) (x : DE) : Prop where
  kind : x.kind < 256
  id : -9223372036854775808 ≤ x.id ∧ x.id ≤ 9223372036854775807
  name : x.name < 256
  seq : x.seq < 18446744073709551616
  s : x.s.length ≤ 9223372036854775807
  wl : SlR W 1 x.wv x.wl.length (x.wl.map (Value.int .i64))
  wn : x.wl.length ≤ 9223372036854775807
def kTab : List TT := [[97], [98], [42], [65]]
def keyE (d : DE) : KY := (1 + ((d.name % 3 : Nat) : Int), kTab.getD (d.name / 64 % 4) [])
def keysAll : List KY := [(1, [97]), (1, [98]), (1, [42]), (1, [65]), (2, [97]), (2, [98]), (2, [42]), (2, [65]), (3, [97]), (3, [98]), (3, [42]), (3, [65])]
theorem keyE_all (d : DE) : keyE d ∈ keysAll := by
  have h1 : d.name % 3 < 3 := Nat.mod_lt _ (by decide)
  have h2 : d.name / 64 % 4 < 4 := Nat.mod_lt _ (by decide)
  unfold keyE
  generalize d.name % 3 = a at h1
  generalize d.name / 64 % 4 = b at h2
  have key : ∀ a, a < 3 → ∀ b, b < 4 → (1 + ((a : Nat) : Int), kTab.getD b []) ∈ keysAll := by decide
  exact key a h1 b h2
theorem keysAll_len : ∀ k ∈ keysAll, k.2.length ≤ 1 := by decide
theorem nodup_sub {α : Type} [DecidableEq α] : ∀ (ks l : List α), l.Nodup → (∀ x ∈ l, x ∈ ks) → l.length ≤ ks.length
  | [], l, _, h => by
    cases l with
    | nil => exact Nat.le_refl _
    | cons a l => exact absurd (h a (by simp)) (by simp)
  | k :: ks, l, hn, h => by
    by_cases hk : k ∈ l
    · have h1 := nodup_sub ks (l.erase k) (hn.erase k) (fun x hx => by
        have h2 := (List.Nodup.mem_erase_iff hn).1 hx
        rcases List.mem_cons.1 (h x h2.2) with rfl | h3
        · exact absurd rfl h2.1
        · exact h3)
      rw [List.length_erase_of_mem hk] at h1
      rw [List.length_cons]
      omega
    · have h1 := nodup_sub ks l hn (fun x hx => by
        rcases List.mem_cons.1 (h x hx) with rfl | h3
        · exact absurd hx hk
        · exact h3)
      rw [List.length_cons]
      omega
theorem getL_isSome {β : Type} {L : List (KY × β)} {k : KY} : k ∈ L.map (·.1) ↔ (getL L k).isSome = true := by
  constructor
  · exact getL_some
  · intro h
    by_cases hk : k ∈ L.map (·.1)
    · exact hk
    · rw [getL_none hk] at h
      cases h
theorem sorted_eq : ∀ {a b : List KY}, a.Pairwise (fun x y => ltK x y) → b.Pairwise (fun x y => ltK x y) → (∀ x, x ∈ a ↔ x ∈ b) → a = b
  | [], [], _, _, _ => rfl
  | [], y :: b, _, _, h => absurd ((h y).2 (by simp)) (by simp)
  | x :: a, [], _, _, h => absurd ((h x).1 (by simp)) (by simp)
  | x :: a, y :: b, ha, hb, h => by
    obtain ⟨ha1, ha2⟩ := List.pairwise_cons.1 ha
    obtain ⟨hb1, hb2⟩ := List.pairwise_cons.1 hb
    have hxy : x = y := by
      rcases List.mem_cons.1 ((h x).1 (by simp)) with e | h1
      · exact e
      · rcases List.mem_cons.1 ((h y).2 (by simp)) with e | h2
        · exact e.symm
        · exact absurd (ltK_tr (ha1 y h2) (hb1 x h1)) (ltK_irr _)
    subst hxy
    congr 1
    refine sorted_eq ha2 hb2 fun z => ?_
    constructor
    · intro hz
      rcases List.mem_cons.1 ((h z).1 (List.mem_cons_of_mem _ hz)) with e | h1
      · subst e; exact absurd (ha1 _ hz) (ltK_irr _)
      · exact h1
    · intro hz
      rcases List.mem_cons.1 ((h z).2 (List.mem_cons_of_mem _ hz)) with e | h1
      · subst e; exact absurd (hb1 _ hz) (ltK_irr _)
      · exact h1
/-- Keys that rise, and are those of the notes. -/
theorem keys_same {A : List (KY × ND)} {R : List RN} (hA : (A.map (·.1)).Nodup) (hR : Sorted R) (he : ∀ x, getL (RL R) x = getL (PL A) x) {l : List KY} (hp : l.Perm (A.map (·.1))) (hs : l.Pairwise fun a b => ¬ ltK b a) : l = R.map (·.k) := by
  have hnd : l.Nodup := hp.nodup_iff.2 hA
  refine sorted_eq ?_ ?_ fun x => ?_
  · have h2 : l.Pairwise fun a b => a ≠ b ∧ ¬ ltK b a := hnd.imp₂ (fun a b h1 h2 => ⟨h1, h2⟩) hs
    exact h2.imp fun ⟨h1, h2⟩ => ltK_tri h2 (fun e => h1 e.symm)
  · rw [List.pairwise_map]; exact hR
  · rw [hp.mem_iff, ← PL_keys, getL_isSome, ← he, ← getL_isSome, RL_keys]
set_option maxRecDepth 100000 in
set_option maxHeartbeats 4000000 in
theorem key_ca' (d : DE) {w : World} (hd : deOk w d) : Ca Tryz.prog 6 #[.agg (GDe d).toArray] w fun v w' => v = encK (keyE d) ∧ Keeps NoB w w' := by
  refine ca_of_body (args := [.agg (GDe d).toArray]) Tryz.func6 rfl (by kernel_rfl) ?_
  apply wc_seq
  apply wc_region
  refine wr_box (v := .agg (GDe d).toArray) rfl rfl ?_
  refine wr_name ?_
  intro w1 hww1
  obtain ⟨bw1, hbw1⟩ : ∃ b, b = (w).heap.size := ⟨_, rfl⟩
  have hkw1 : Keeps NoB w w1 := by rw [hww1]; exact (Keeps.refl NoB w).alloc _
  have hcw1 : (w1).heap[bw1]? = some (.cells ((GDe d)).toArray 33 (0, 0)) := by rw [hww1, hbw1]; exact heap_alloc_same _ _
  rw [← hbw1]
  clear hww1
  apply wr_alloc
  focus exact rfl
  refine wr_name ?_
  intro w2 hww2
  obtain ⟨bw2, hbw2⟩ : ∃ b, b = (w1).heap.size := ⟨_, rfl⟩
  have hkw2 : Keeps NoB w1 w2 := by rw [hww2]; exact (Keeps.refl NoB w1).alloc _
  have hcw2 : (w2).heap[bw2]? = some (.cells ([.int .i64 0, S []]).toArray 36 (0, 0)) := by rw [hww2, hbw2]; exact heap_alloc_same _ _
  rw [← hbw2]
  clear hww2
  have hc1 := hkw2.heap hcw1 (fun h => h)
  have hm3 : d.name % 3 < 3 := Nat.mod_lt _ (by decide)
  have hm4 : d.name / 64 % 4 < 4 := Nat.mod_lt _ (by decide)
  have hk0 : ∀ {w'}, Keeps NoB w2.drew w' → Keeps NoB w2 w' := fun hk => (Keeps.refl NoB w2).drew.trans hk
  (repeat first | apply wr_end | apply wc_seq)
  refine wc_drawP (l := _) 13 _ (by kernel_rfl) (by kernel_rfl) rfl (by kernel_rfl) (by kernel_rfl) (by decide) ?_
  apply chP_pure
  focus
    intro xx w' hk hF
    refine wr_fieldAddr rfl rfl ?_
    apply wr_nil
    exact ⟨rfl, Keeps.refl _ _⟩
  focus (intro xx yy h; rfl)
  focus kernel_rfl
  apply chP_pure
  focus
    intro xx w' hk hF
    refine wr_load (v := .int .u8 ((d.name : Nat) : Int)) rfl rfl rfl ((hk0 hk).heap hc1 (fun h => h)) rfl ?_
    apply wr_nil
    exact ⟨rfl, Keeps.refl _ _⟩
  focus (intro xx yy h; rfl)
  focus kernel_rfl
  apply chP_pure
  focus
    intro xx w' hk hF
    refine wr_remN (n := d.name) (m := 3) rfl rfl rfl (by decide) ?_
    apply wr_nil
    exact ⟨rfl, Keeps.refl _ _⟩
  focus (intro xx yy h; rfl)
  focus kernel_rfl
  apply chP_pure
  focus
    intro xx w' hk hF
    refine wr_conv (c := ((d.name % 3 : Nat) : Int)) rfl rfl (w_fit (by dsimp only [kIn]; omega)) ?_
    apply wr_nil
    exact ⟨rfl, Keeps.refl _ _⟩
  focus (intro xx yy h; rfl)
  focus kernel_rfl
  apply chP_pure
  focus
    intro xx w' hk hF
    refine wr_add (c := 1 + ((d.name % 3 : Nat) : Int)) rfl rfl rfl (w_fit (by dsimp only [kIn]; omega)) ?_
    apply wr_nil
    exact ⟨rfl, Keeps.refl _ _⟩
  focus (intro xx yy h; rfl)
  focus kernel_rfl
  refine chP_fact (fun y => .slice (some ⟨blkOf y, 0, none⟩) 4 4) (fun y w' => w'.heap[blkOf y]? = some (.cells (kTab.map S).toArray 9 (0, 0))) (fun y w' w'' h k => k.heap h (fun h => h)) ?_ ?_
  focus
    intro xx w' hk hF
    refine wr_buildSlice (vs := kTab.map S) rfl rfl (by intro v hv; simp [kTab] at hv; rcases hv with rfl | rfl | rfl | rfl <;> rfl) rfl (by decide) (by decide) (by decide) ?_
    apply wr_nil
    exact ⟨.pointer (some ⟨w'.heap.size, 0, none⟩), rfl, heap_alloc_same _ _, (Keeps.refl _ _).alloc _⟩
  apply chP_pure
  focus
    intro xx w' hk hF
    refine wr_fieldAddr rfl rfl ?_
    apply wr_nil
    exact ⟨rfl, Keeps.refl _ _⟩
  focus (intro xx yy h; rfl)
  focus kernel_rfl
  apply chP_pure
  focus
    intro xx w' hk hF
    refine wr_load (v := .int .u8 ((d.name : Nat) : Int)) rfl rfl rfl ((hk0 hk).heap hc1 (fun h => h)) rfl ?_
    apply wr_nil
    exact ⟨rfl, Keeps.refl _ _⟩
  focus (intro xx yy h; rfl)
  focus kernel_rfl
  apply chP_pure
  focus
    intro xx w' hk hF
    refine wr_quoN (n := d.name) (m := 64) rfl rfl rfl (by decide) (w_fit (by dsimp only [kIn]; have := hd.name; omega)) ?_
    apply wr_nil
    exact ⟨rfl, Keeps.refl _ _⟩
  focus (intro xx yy h; rfl)
  focus kernel_rfl
  apply chP_pure
  focus
    intro xx w' hk hF
    refine wr_remN (n := d.name / 64) (m := 4) rfl rfl rfl (by decide) ?_
    apply wr_nil
    exact ⟨rfl, Keeps.refl _ _⟩
  focus (intro xx yy h; rfl)
  focus kernel_rfl
  apply chP_pure
  focus
    intro xx w' hk hF
    refine wr_indexAddr (i := d.name / 64 % 4) rfl rfl rfl hm4 ?_
    apply wr_nil
    exact ⟨rfl, Keeps.refl _ _⟩
  focus (intro xx yy h; exact congrArg (fun y => Value.pointer (some ⟨blkOf y, 0 + d.name / 64 % 4 * 1, none⟩)) (h 5 (by kernel_rfl)))
  focus kernel_rfl
  apply chP_pure
  focus
    intro xx w' hk hF
    have h5 : w'.heap[blkOf (xx 5)]? = some (.cells (kTab.map S).toArray 9 (0, 0)) := hF 5 (by kernel_rfl)
    refine wr_load (v := S (kTab.getD (d.name / 64 % 4) [])) rfl rfl rfl h5 ?_ ?_
    focus
      have h : ∀ j, j < 4 → (kTab.map S).toArray[0 + j * 1]? = some (S (kTab.getD j [])) := by
        intro j hj
        match j, hj with
        | 0, _ => rfl
        | 1, _ => rfl
        | 2, _ => rfl
        | 3, _ => rfl
      exact h _ hm4
    apply wr_nil
    exact ⟨rfl, Keeps.refl _ _⟩
  focus (intro xx yy h; rfl)
  focus kernel_rfl
  apply chP_pure
  focus
    intro xx w' hk hF
    refine wr_build (ps := [(0, .int .i64 (keyE d).1), (1, S (keyE d).2)]) (cs := [.int .i64 (keyE d).1, S (keyE d).2]) rfl rfl rfl rfl ?_
    apply wr_nil
    exact ⟨rfl, Keeps.refl _ _⟩
  focus (intro xx yy h; rfl)
  focus kernel_rfl
  refine chP_nil ?_
  intro xx w3 hk3' hF
  have hk3 := hk0 hk3'
  clear hF
  have hc3 := hk3.heap hcw2 (fun h => h)
  refine wr_storeAll (cs := [.int .i64 (keyE d).1, S (keyE d).2]) rfl rfl rfl (by intro u hu; simp at hu; rcases hu with rfl | rfl <;> rfl) hc3 (rfl) (rfl) ?_
  refine wr_name ?_
  intro w4 hww4
  have hkw4 : Keeps (· = bw2) w3 w4 := by rw [hww4]; exact (Keeps.refl _ w3).put _ (fun _ => rfl)
  have hcw4 : (w4).heap[bw2]? = some (.cells ([.int .i64 (keyE d).1, S (keyE d).2]).toArray 36 (0, 0)) := by rw [hww4]; exact World.putObj_heap_same (lt_of_heap hc3)
  clear hww4
  (repeat first | apply wr_end | (apply wc_ret; try simp only [thenE, inBlockE, bodyQ]))
  exact leaveN (vs := [encK (keyE d)]) (resv_cells (cs := [.int .i64 (keyE d).1, S (keyE d).2]) (e := 36) (fr := (0, 0)) rfl rfl hcw4 rfl resv_nil) ⟨rfl, ((hkw1.trans hkw2).trans hk3).trans' hkw4 (fun i hi e => by have := hkw1.size; omega)⟩
end Go.Proofs.YtjaojihogmnjhaaGreatDoor

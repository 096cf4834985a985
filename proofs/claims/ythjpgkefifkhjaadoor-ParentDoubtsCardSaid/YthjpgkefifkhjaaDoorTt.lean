/- While nobody is doubted: plain facts. -/
import Derived.Test.YthjpgkefifkhjaaDoorTp
namespace Go.Proofs.YthjpgkefifkhjaaDoor
open Go Go.V Go.RowKit
set_option linter.unusedVariables false
set_option linter.unusedSimpArgs false

structure Calm (T : List ND) : Prop where
  db : ∀ (k : Nat) (n : ND), T[k]? = some n → n.doubt = []
  fix : ∀ (k : Nat) (n : ND), T[k]? = some n → chooseN T n = n
theorem okC_nil {T : List ND} {n : ND} (h : n.doubt = []) : okC T n = upT T := by funext c; unfold okC; rw [h]; simp
theorem choose_idem (T : List ND) (n : ND) : chooseN T (chooseN T n) = chooseN T n := rfl
theorem chooseT_get (T : List ND) (j k : Nat) : (chooseT T j)[k]? = (T[k]?).map fun n => if k = j then chooseN T n else n := by
  unfold chooseT
  by_cases h : j = k
  · subst h
    by_cases hl : j < T.length
    · rw [List.getElem?_set_self hl]; simp [hl]
    · rw [List.getElem?_eq_none (by rw [List.length_set]; omega), List.getElem?_eq_none (by omega)]; rfl
  · rw [List.getElem?_set_ne h]
    cases T[k]? with
    | none => rfl
    | some n => simp [show ¬ k = j from fun e => h e.symm]
/-- Who is up, of two trees whose nodes are up alike. -/
theorem upT_congr {T T' : List ND} (hl : T'.length = T.length) (h : ∀ (k : Nat) (n n' : ND), T[k]? = some n → T'[k]? = some n' → n'.up = n.up) (c : Int) : upT T' c = upT T c := by
  unfold upT
  have hin : inT T' c ↔ inT T c := by unfold inT; rw [hl]
  by_cases hc : inT T c
  · rw [if_pos (hin.2 hc), if_pos hc]
    have hlt : c.toNat < T.length := by unfold inT at hc; omega
    have h1 : T[c.toNat]? = some T[c.toNat] := by simp [hlt]
    have h2 : T'[c.toNat]? = some (T'[c.toNat]'(by omega)) := by simp [show c.toNat < T'.length by omega]
    rw [ndAt_of h1, ndAt_of h2]
    exact h _ _ _ h1 h2
  · rw [if_neg (fun h => hc (hin.1 h)), if_neg hc]
theorem upT_choose (T : List ND) (j : Nat) (c : Int) : upT (chooseT T j) c = upT T c := by
  refine upT_congr (chooseT_len T j) (fun k n n' h h' => ?_) c
  rw [chooseT_get, h] at h'
  simp at h'
  subst h'
  split <;> rfl
theorem fold_get : ∀ (l : List Nat) (T : List ND) (k : Nat), (l.foldl chooseT T)[k]? = (T[k]?).map fun n => if k ∈ l then chooseN T n else n
  | [], T, k => by simp
  | j :: l, T, k => by
    rw [List.foldl_cons, fold_get l, chooseT_get]
    cases T[k]? with
    | none => rfl
    | some n =>
      simp only [Option.map_some, Option.some.injEq]
      have hc : ∀ n, chooseN (chooseT T j) n = chooseN T n := chooseN_congr (upT_choose T j)
      by_cases h1 : k = j <;> by_cases h2 : k ∈ l <;> simp [h1, h2, hc, choose_idem]
      all_goals (subst h1; simp [h2])
theorem fold_len : ∀ (l : List Nat) (T : List ND), (l.foldl chooseT T).length = T.length
  | [], T => rfl
  | j :: l, T => by rw [List.foldl_cons, fold_len l, chooseT_len]
theorem upT_fold (l : List Nat) (T : List ND) (c : Int) : upT (l.foldl chooseT T) c = upT T c := by
  refine upT_congr (fold_len l T) (fun k n n' h h' => ?_) c
  rw [fold_get, h] at h'
  simp at h'
  subst h'
  split <;> rfl
theorem find_sub {p q : Int → Bool} {l : List Int} (hq : ∀ x, q x = true → p x = true) (h : ∀ c, l.find? p = some c → q c = true) : l.find? q = l.find? p := by
  cases hp : l.find? p with
  | none =>
    rw [List.find?_eq_none] at hp ⊢
    exact fun x hx hqx => hp x hx (hq x hqx)
  | some c =>
    rw [List.find?_eq_some_iff_getElem] at hp ⊢
    obtain ⟨h1, i, hi, he, hno⟩ := hp
    refine ⟨h c (by rw [List.find?_eq_some_iff_getElem]; exact ⟨h1, i, hi, he, hno⟩), i, hi, he, fun j hj => ?_⟩
    have := hno j hj
    simp only [Bool.not_eq_true', Bool.not_eq_eq_eq_not, Bool.not_true] at this ⊢
    cases hqj : q l[j] with
    | false => rfl
    | true => rw [hq _ hqj] at this; cases this
theorem upT_setN {T : List ND} {i : Nat} {n n' : ND} (hn : T[i]? = some n) (hi : 1 ≤ i) (c : Int) : upT (T.set i n') c = if c = (i : Int) then n'.up else upT T c := by
  have hlt := (List.getElem?_eq_some_iff.1 hn).1
  unfold upT
  have hin : inT (T.set i n') c ↔ inT T c := by unfold inT; rw [List.length_set]
  by_cases hc : c = (i : Int)
  · subst hc
    have h : inT T (i : Int) := by unfold inT; omega
    rw [if_pos (hin.2 h), if_pos rfl]
    rw [ndAt_of (n := n') (by rw [Int.toNat_natCast]; exact List.getElem?_set_self hlt)]
  · rw [if_neg hc]
    by_cases h : inT T c
    · rw [if_pos (hin.2 h), if_pos h]
      unfold ndAt
      have : i ≠ c.toNat := by unfold inT at h; omega
      simp only [List.getD_eq_getElem?_getD, List.getElem?_set_ne this]
    · rw [if_neg (fun g => h (hin.1 g)), if_neg h]
theorem Calm.par {T : List ND} (h : Calm T) {k : Nat} {n : ND} (hn : T[k]? = some n) : n.par = if n.up = true then (n.cands.find? (upT T)).getD 0 else 0 := by
  have h1 := congrArg ND.par (h.fix k n hn)
  unfold chooseN at h1
  rw [okC_nil (h.db k n hn)] at h1
  exact h1.symm
theorem fix_of {T : List ND} {n : ND} (hd : n.doubt = []) (hp : n.par = if n.up = true then (n.cands.find? (upT T)).getD 0 else 0) : chooseN T n = n := by
  unfold chooseN
  rw [okC_nil hd, ← hp]
theorem Calm.fall {T : List ND} (h : Calm T) (hZ : Z0 T) {i : Nat} (h1 : 1 ≤ i) (h2 : i < T.length) : Calm (fallT T i) := by
  have hn : T[i]? = some T[i] := by simp [h2]
  have hg : T.getD i ndZ = T[i] := by simp [h2]
  unfold fallT
  rw [hg]
  generalize hT1 : T.set i (downN T[i]) = T1
  have hup1 : ∀ c, upT T1 c = if c = (i : Int) then false else upT T c := fun c => by rw [← hT1, upT_setN hn h1]; rfl
  have hget : ∀ (k : Nat) (n : ND), T1[k]? = some n → (k = i ∧ n = downN T[i]) ∨ (k ≠ i ∧ T[k]? = some n) := fun k n h => by
    rw [← hT1] at h
    by_cases hk : i = k
    · subst hk
      rw [List.getElem?_set_self h2] at h
      cases h
      exact .inl ⟨rfl, rfl⟩
    · rw [List.getElem?_set_ne hk] at h
      exact .inr ⟨fun e => hk e.symm, h⟩
  have hdb : ∀ (k : Nat) (n : ND), T1[k]? = some n → n.doubt = [] := fun k n hn => by
    rcases hget k n hn with ⟨_, rfl⟩ | ⟨_, hn⟩
    · rfl
    · exact h.db k n hn
  have hu : ∀ c, upT ((belowN T i T.length).foldl chooseT (chooseT T1 i)) c = upT T1 c := fun c => by rw [upT_fold, upT_choose]
  have key : ∀ (k : Nat) (n : ND), ((belowN T i T.length).foldl chooseT (chooseT T1 i))[k]? = some n → n.doubt = [] ∧ chooseN T1 n = n := fun k n hk => by
    rw [fold_get, chooseT_get] at hk
    cases hk1 : T1[k]? with
    | none => rw [hk1] at hk; cases hk
    | some m =>
      rw [hk1] at hk
      simp only [Option.map_some, Option.some.injEq] at hk
      have hcc : ∀ n, chooseN (chooseT T1 i) n = chooseN T1 n := chooseN_congr (upT_choose T1 i)
      simp only [hcc] at hk
      have hmd := hdb k m hk1
      by_cases hki : k = i
      · rw [if_pos hki] at hk
        split at hk <;> (subst hk; exact ⟨hmd, rfl⟩)
      · rw [if_neg hki] at hk
        by_cases hkb : k ∈ belowN T i T.length
        · rw [if_pos hkb] at hk
          subst hk
          exact ⟨hmd, rfl⟩
        · rw [if_neg hkb] at hk
          subst hk
          refine ⟨hmd, fix_of hmd ?_⟩
          obtain ⟨e, _⟩ | ⟨_, hm⟩ := hget k m hk1
          · exact absurd e hki
          rw [h.par hm]
          by_cases hmu : m.up = true
          · rw [if_pos hmu, if_pos hmu]
            congr 1
            refine (find_sub (fun x hx => ?_) (fun c hc => ?_)).symm
            · rw [hup1] at hx
              split at hx
              · cases hx
              · exact hx
            · rw [hup1]
              have hpar := h.par hm
              rw [if_pos hmu, hc] at hpar
              have hci : c ≠ (i : Int) := fun e => hkb (by
                unfold belowN
                have hkl := (List.getElem?_eq_some_iff.1 hm).1
                have h0 : 0 < k := by
                  rcases Nat.eq_zero_or_pos k with e0 | h
                  · subst e0
                    unfold Z0 at hZ
                    rw [hZ] at hm
                    cases hm
                    cases hmu
                  · exact h
                have hpk : parAt T k = (i : Int) := by unfold parAt; simp [hm]; rw [hpar, ← e]; rfl
                simp [hkl, h0, hpk]
                omega)
              rw [if_neg hci]
              exact (List.find?_some hc)
          · rw [if_neg hmu, if_neg hmu]
  exact ⟨fun k n hk => (key k n hk).1, fun k n hk => by rw [chooseN_congr hu]; exact (key k n hk).2⟩
theorem unDoubt_nil {id : Int} {n : ND} (h : n.doubt = []) : unDoubt id n = n := by
  unfold unDoubt
  rw [h]
  cases n; simp at h; subst h; rfl
def stepN (T : List ND) (id : Int) (n : ND) : ND := if (n.up && laterN n id) = true then chooseN T n else n
theorem stepR_calm {T : List ND} (hd : ∀ (k : Nat) (n : ND), T[k]? = some n → n.doubt = []) (id : Int) (j k : Nat) : (stepR id T j)[k]? = (T[k]?).map fun n => if k = j then stepN T id n else n := by
  have hs : T.set j (unDoubt id (T.getD j ndZ)) = T := by
    by_cases hl : j < T.length
    · have h1 : T[j]? = some T[j] := by simp [hl]
      have h2 : T.getD j ndZ = T[j] := by simp [hl]
      rw [h2, unDoubt_nil (hd j _ h1)]
      exact set_same h1
    · rw [List.set_eq_of_length_le (by omega)]
  have hu : unDoubt id (T.getD j ndZ) = T.getD j ndZ := by
    by_cases hl : j < T.length
    · have h1 : T[j]? = some T[j] := by simp [hl]
      have h2 : T.getD j ndZ = T[j] := by simp [hl]
      rw [h2, unDoubt_nil (hd j _ h1)]
    · have h2 : T.getD j ndZ = ndZ := by simp [hl]
      rw [h2]; rfl
  unfold stepR
  dsimp only
  rw [hs, hu]
  unfold stepN
  by_cases hc : ((T.getD j ndZ).up && laterN (T.getD j ndZ) id) = true
  · rw [if_pos hc, chooseT_get]
    cases hk : T[k]? with
    | none => rfl
    | some n =>
      simp only [Option.map_some, Option.some.injEq]
      by_cases hkj : k = j
      · subst hkj
        have h2 : T.getD k ndZ = n := by simp [hk]
        rw [h2] at hc
        rw [if_pos rfl, if_pos rfl, if_pos hc]
      · rw [if_neg hkj, if_neg hkj]
  · rw [if_neg hc]
    cases hk : T[k]? with
    | none => rfl
    | some n =>
      simp only [Option.map_some, Option.some.injEq]
      by_cases hkj : k = j
      · subst hkj
        have h2 : T.getD k ndZ = n := by simp [hk]
        rw [h2] at hc
        rw [if_pos rfl, if_neg hc]
      · rw [if_neg hkj]
theorem stepN_up (T : List ND) (id : Int) (n : ND) : (stepN T id n).up = n.up ∧ (stepN T id n).doubt = n.doubt := by unfold stepN; split <;> exact ⟨rfl, rfl⟩
theorem stepR_len (id : Int) (T : List ND) (k : Nat) : (stepR id T k).length = T.length := by
  unfold stepR
  dsimp only
  split
  · rw [chooseT_len, List.length_set]
  · rw [List.length_set]
theorem foldR_get (id : Int) : ∀ (l : List Nat) (T : List ND), (∀ (k : Nat) (n : ND), T[k]? = some n → n.doubt = []) → l.Nodup → ∀ k : Nat, (l.foldl (stepR id) T)[k]? = (T[k]?).map fun n => if k ∈ l then stepN T id n else n
  | [], T, hd, _, k => by simp
  | j :: l, T, hd, hn, k => by
    rw [List.nodup_cons] at hn
    have hg := stepR_calm hd id j
    have hd' : ∀ (k : Nat) (n : ND), (stepR id T j)[k]? = some n → n.doubt = [] := fun k n hk => by
      rw [hg] at hk
      cases hk1 : T[k]? with
      | none => rw [hk1] at hk; cases hk
      | some m =>
        rw [hk1] at hk
        simp only [Option.map_some, Option.some.injEq] at hk
        subst hk
        split
        · rw [(stepN_up _ _ _).2]; exact hd k m hk1
        · exact hd k m hk1
    have hu : ∀ c, upT (stepR id T j) c = upT T c := fun c => by
      refine upT_congr (stepR_len id T j) (fun k n n' h h' => ?_) c
      rw [hg, h] at h'
      simp at h'
      subst h'
      split
      · exact (stepN_up _ _ _).1
      · rfl
    have hsn : ∀ n, stepN (stepR id T j) id n = stepN T id n := fun n => by unfold stepN; rw [chooseN_congr hu]
    rw [List.foldl_cons, foldR_get id l _ hd' hn.2 k, hg]
    cases hk : T[k]? with
    | none => rfl
    | some n =>
      simp only [Option.map_some, Option.some.injEq, hsn]
      by_cases h1 : k = j
      · subst h1
        simp [hn.1]
      · simp [h1]
theorem foldR_len (id : Int) : ∀ (l : List Nat) (T : List ND), (l.foldl (stepR id) T).length = T.length
  | [], T => rfl
  | j :: l, T => by rw [List.foldl_cons, foldR_len id l, stepR_len]
theorem idxOf_mem {l : List Int} {x : Int} (h : x ∈ l) : ∃ j : Nat, idxOf l x = (j : Int) ∧ l[j]? = some x ∧ ∀ (i : Nat) (y : Int), i < j → l[i]? = some y → y ≠ x := by
  unfold idxOf
  cases hf : l.findIdx? (· == x) with
  | none =>
    rw [List.findIdx?_eq_none_iff] at hf
    have := hf x h
    simp at this
  | some j =>
    rw [List.findIdx?_eq_some_iff_getElem] at hf
    obtain ⟨hj, he, hno⟩ := hf
    refine ⟨j, rfl, by simp at he; simp [hj, he], fun i y hi hy e => ?_⟩
    have hil := (List.getElem?_eq_some_iff.1 hy).1
    have h1 := hno i hi
    have h2 := (List.getElem?_eq_some_iff.1 hy).2
    rw [h2, e] at h1
    simp at h1
theorem idxOf_not {l : List Int} {x : Int} (h : x ∉ l) : idxOf l x = -1 := by
  unfold idxOf
  have : l.findIdx? (· == x) = none := by
    rw [List.findIdx?_eq_none_iff]
    intro y hy
    have : y ≠ x := fun e => h (e ▸ hy)
    simpa using this
  rw [this]
theorem Calm.rise {T : List ND} (h : Calm T) {i : Nat} (h1 : 1 ≤ i) (h2 : i < T.length) (hdn : upT T i = false) : Calm (riseT T i) := by
  have hn : T[i]? = some T[i] := by simp [h2]
  have hg : T.getD i ndZ = T[i] := by simp [h2]
  unfold riseT
  rw [hg]
  generalize hT1 : T.set i (riseN T[i]) = T1
  have hup1 : ∀ c, upT T1 c = if c = (i : Int) then true else upT T c := fun c => by rw [← hT1, upT_setN hn h1]; rfl
  have hget : ∀ (k : Nat) (n : ND), T1[k]? = some n → (k = i ∧ n = riseN T[i]) ∨ (k ≠ i ∧ T[k]? = some n) := fun k n h => by
    rw [← hT1] at h
    by_cases hk : i = k
    · subst hk
      rw [List.getElem?_set_self h2] at h
      cases h
      exact .inl ⟨rfl, rfl⟩
    · rw [List.getElem?_set_ne hk] at h
      exact .inr ⟨fun e => hk e.symm, h⟩
  have hdb : ∀ (k : Nat) (n : ND), T1[k]? = some n → n.doubt = [] := fun k n hk => by
    rcases hget k n hk with ⟨_, rfl⟩ | ⟨_, hk⟩
    · have e := h.db i T[i] hn; exact e
    · exact h.db k n hk
  have hdb2 : ∀ (k : Nat) (n : ND), (chooseT T1 i)[k]? = some n → n.doubt = [] := fun k n hk => by
    rw [chooseT_get] at hk
    cases hk1 : T1[k]? with
    | none => rw [hk1] at hk; cases hk
    | some m =>
      rw [hk1] at hk
      simp only [Option.map_some, Option.some.injEq] at hk
      subst hk
      split
      · exact hdb k m hk1
      · exact hdb k m hk1
  have hcc : ∀ n, chooseN (chooseT T1 i) n = chooseN T1 n := chooseN_congr (upT_choose T1 i)
  have hss : ∀ n, stepN (chooseT T1 i) i n = stepN T1 i n := fun n => by unfold stepN; rw [hcc]
  have key : ∀ (k : Nat) (n : ND), ((List.range T.length).foldl (stepR (i : Int)) (chooseT T1 i))[k]? = some n → n.doubt = [] ∧ chooseN T1 n = n ∧ ∃ m, T1[k]? = some m ∧ n.up = m.up := fun k n hk => by
    rw [foldR_get _ _ _ hdb2 List.nodup_range, chooseT_get] at hk
    cases hk1 : T1[k]? with
    | none => rw [hk1] at hk; cases hk
    | some m =>
      rw [hk1] at hk
      have hkl : k < T.length := by
        have := (List.getElem?_eq_some_iff.1 hk1).1
        rw [← hT1, List.length_set] at this
        exact this
      simp only [Option.map_some, Option.some.injEq, hss, List.mem_range, hkl, if_true] at hk
      have hmd := hdb k m hk1
      by_cases hki : k = i
      · rw [if_pos hki] at hk
        subst hk
        unfold stepN
        split
        · exact ⟨hmd, rfl, m, rfl, rfl⟩
        · exact ⟨hmd, rfl, m, rfl, rfl⟩
      · rw [if_neg hki] at hk
        unfold stepN at hk
        by_cases hlt : (m.up && laterN m i) = true
        · rw [if_pos hlt] at hk
          subst hk
          exact ⟨hmd, rfl, m, rfl, rfl⟩
        · rw [if_neg hlt] at hk
          subst hk
          refine ⟨hmd, fix_of hmd ?_, m, rfl, rfl⟩
          obtain ⟨e, _⟩ | ⟨_, hm⟩ := hget k m hk1
          · exact absurd e hki
          rw [h.par hm]
          by_cases hmu : m.up = true
          · rw [if_pos hmu, if_pos hmu]
            congr 1
            have hpar := h.par hm
            rw [if_pos hmu] at hpar
            rw [hmu, Bool.true_and] at hlt
            unfold laterN at hlt
            by_cases hic : (i : Int) ∈ m.cands
            · obtain ⟨j, hj, hjg, hjno⟩ := idxOf_mem hic
              rw [hj] at hlt
              have h0 : decide ((0 : Int) ≤ (j : Int)) = true := by rw [decide_eq_true]; omega
              rw [h0, Bool.true_and, Bool.or_eq_true, decide_eq_true_iff, decide_eq_true_iff] at hlt
              have hp0 : m.par ≠ 0 := fun e => hlt (.inl e)
              have hle : idxOf m.cands m.par ≤ j := by
                have : ¬ ((j : Int) < idxOf m.cands m.par) := fun e => hlt (.inr e)
                omega
              cases hf : m.cands.find? (upT T) with
              | none => rw [hf] at hpar; exact absurd hpar hp0
              | some c =>
                rw [hf] at hpar
                have hpc : m.par = c := hpar
                have hcu : upT T c = true := List.find?_some hf
                have hcm : c ∈ m.cands := List.mem_of_find?_eq_some hf
                rw [hpc] at hle
                obtain ⟨q, hq, hqg, hqno⟩ := idxOf_mem hcm
                rw [hq] at hle
                have hci : c ≠ (i : Int) := fun e => by rw [e, hdn] at hcu; cases hcu
                refine (find_first (j := q) hqg (by rw [hup1, if_neg hci]; exact hcu) (fun a x ha hx => ?_)).symm
                have hxi : x ≠ (i : Int) := hjno a x (by omega) hx
                rw [hup1, if_neg hxi]
                rw [List.find?_eq_some_iff_getElem] at hf
                obtain ⟨_, r, hr, her, hrno⟩ := hf
                by_cases hrq : r < q
                · exact absurd her (hqno r _ hrq (by simp [hr]))
                · have hal := (List.getElem?_eq_some_iff.1 hx).1
                  have := hrno a (by omega)
                  have hxe : m.cands[a] = x := by
                    have := (List.getElem?_eq_some_iff.1 hx).2
                    exact this
                  rw [hxe] at this
                  simpa using this
            · have hall : ∀ x ∈ m.cands, upT T1 x = upT T x := fun x hx => by
                rw [hup1, if_neg (fun e => hic (by rw [← e]; exact hx))]
              clear hpar hlt
              generalize m.cands = l at hall
              induction l with
              | nil => rfl
              | cons y l ih =>
                rw [List.find?_cons, List.find?_cons, hall y (by simp), ih (fun x hx => hall x (by simp [hx]))]
          · rw [if_neg hmu, if_neg hmu]
  have hu : ∀ c, upT ((List.range T.length).foldl (stepR (i : Int)) (chooseT T1 i)) c = upT T1 c := fun c => by
    refine upT_congr (by rw [foldR_len, chooseT_len]) (fun k n n' hk hk' => ?_) c
    obtain ⟨_, _, m, hm, hmu⟩ := key k n' hk'
    rw [hk] at hm
    cases hm
    exact hmu
  exact ⟨fun k n hk => (key k n hk).1, fun k n hk => by rw [chooseN_congr hu]; exact (key k n hk).2.1⟩
theorem calm_new (N : List NG) : Calm (newT N) := by
  have hu : ∀ c, upT (newT N) c = upT (initT N) c := fun c => by
    refine upT_congr (by unfold newT; simp) (fun k n n' h h' => ?_) c
    unfold newT at h'
    rw [List.getElem?_map, h] at h'
    cases h'
    rfl
  have key : ∀ (k : Nat) (n : ND), (newT N)[k]? = some n → n.doubt = [] ∧ chooseN (initT N) n = n := fun k n hk => by
    unfold newT at hk
    rw [List.getElem?_map] at hk
    cases hm : (initT N)[k]? with
    | none => rw [hm] at hk; cases hk
    | some m =>
      rw [hm] at hk
      cases hk
      refine ⟨?_, rfl⟩
      have := List.mem_of_getElem? hm
      unfold initT at this
      rcases List.mem_cons.1 this with rfl | h
      · rfl
      · obtain ⟨g, _, rfl⟩ := List.mem_map.1 h; rfl
  exact ⟨fun k n hk => (key k n hk).1, fun k n hk => by rw [chooseN_congr hu]; exact (key k n hk).2⟩
end Go.Proofs.YthjpgkefifkhjaaDoor

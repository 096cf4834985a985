/- payload.Get: what it does. -/
import Derived.Test.YthlbgeonobicbaaDoorYi
namespace Go.Proofs.YthlbgeonobicbaaDoor
open Go Go.V Go.RowKit
set_option linter.unusedVariables false
set_option linter.unusedSimpArgs false

def PL0 : PL := ⟨[], 0, [], [], 0, [], [], []⟩
def tkPay (has : List UInt8) (k : Nat) (p : PL) (l : List WF) : Option PL :=
  if inF has (lets.getD k []) = false then some p else match k with
  | 0 => if kindsB l 2 = true then some { p with name := lastS p.name l } else none
  | 1 => if kindsB l 0 = true then some { p with port := lastN p.port l } else none
  | 2 => if kindsB l 2 = true then some { p with route := lastS p.route l } else none
  | 3 => (tkList ruleTk p.rules l).map fun x => { p with rules := x }
  | 4 => if kindsB l 0 = true then some { p with policy := lastN p.policy l } else none
  | 5 => if kindsB l 2 = true then some { p with secret := lastS p.secret l } else none
  | 6 => (tkList addrTk p.addrs l).map fun x => { p with addrs := x }
  | 7 => if kindsB l 2 = true then some { p with key := lastS p.key l } else none
  | _ => none
def noTake : Value := .func (.func 34) #[] #[]
def cF (has : List UInt8) (k i : Nat) (x : Fd) : Fd := bif (Nat.blt i k && !inF has (lets.getD i [])) then (x.1, x.2.1, noTake) else x
def curL (has : List UInt8) (B : Nat → Nat) (k : Nat) : List Fd := [cF has k 0 (textT [] (B 0)), cF has k 1 (numT [112] (B 1)), cF has k 2 (textT [111] (B 2)), cF has k 3 (rulesT [114] (B 3) (B 8)), cF has k 4 (numT [108] (B 4)), cF has k 5 (textT [115] (B 5)), cF has k 6 (addrsT [97] (B 6) (B 9)), cF has k 7 (textT [107] (B 7))]
theorem curL_zero (has : List UInt8) (B : Nat → Nat) : curL has B 0 = fldL B := rfl
theorem cF_parts (has : List UInt8) (k i : Nat) (x : Fd) : (cF has k i x).1 = x.1 ∧ (cF has k i x).2.1 = x.2.1 := by
  unfold cF
  cases (Nat.blt i k && !inF has (lets.getD i [])) <;> exact ⟨rfl, rfl⟩
theorem cF_one {has : List UInt8} {k i : Nat} {x : Fd} (h : x.one) : (cF has k i x).one := by
  unfold cF
  cases (Nat.blt i k && !inF has (lets.getD i []))
  · exact h
  · exact ⟨h.1, h.2.1, rfl⟩
theorem curL_get {has : List UInt8} {B : Nat → Nat} {k i : Nat} {x : Fd} (h : (curL has B k)[i]? = some x) : ∃ y, (fldL B)[i]? = some y ∧ x = cF has k i y := by
  match i with
  | 0 | 1 | 2 | 3 | 4 | 5 | 6 | 7 => simp [curL] at h; subst h; exact ⟨_, rfl, rfl⟩
  | i + 8 => simp [curL] at h
theorem curL_one (has : List UInt8) (B : Nat → Nat) (k : Nat) : ∀ x ∈ curL has B k, x.one := by
  intro x hx
  obtain ⟨i, hi⟩ := List.getElem?_of_mem hx
  obtain ⟨y, hy, rfl⟩ := curL_get hi
  exact cF_one (fldL_one B y (List.mem_of_getElem? hy))
theorem curL_same {has : List UInt8} {B : Nat → Nat} {k : Nat} (hk : k < 8) (h : inF has (lets.getD k []) = true) : curL has B (k + 1) = curL has B k := by
  match k with
  | 0 | 1 | 2 | 3 | 4 | 5 | 6 | 7 => simp only [curL, cF, h]; rfl
theorem curL_cut {has : List UInt8} {B : Nat → Nat} {k : Nat} {x : Fd} (hx : (curL has B k)[k]? = some x) (h : inF has (lets.getD k []) = false) : curL has B (k + 1) = (curL has B k).set k (x.1, x.2.1, noTake) := by
  match k with
  | 0 | 1 | 2 | 3 | 4 | 5 | 6 | 7 => simp [curL] at hx; subst hx; simp only [curL, cF, h]; rfl
  | k + 8 => simp [curL] at hx
theorem flat_set3 : ∀ (l : List Fd) (k : Nat) (x : Fd) (f : Value), l[k]? = some x → (l.set k (x.1, x.2.1, f)).flatMap G3 = (l.flatMap G3).set (k * 3 + 2) f
  | [], k, x, f, h => by simp at h
  | y :: l, 0, x, f, h => by simp at h; subst h; simp [G3]
  | y :: l, k + 1, x, f, h => by
    have ih := flat_set3 l k x f (by simpa using h)
    have e : (k + 1) * 3 + 2 = (k * 3 + 2) + 3 := by omega
    simp only [List.set_cons_succ, List.flatMap_cons, ih, e]
    rfl
theorem FB.keepB {w w' : World} {b base : Nat} {B : Nat → Nat} {D : Nat → Prop} (h : FB w b base B) (k : Keeps D w w') (hd : ∀ i, i < 10 → ¬ D (B i)) : FB w' b base B :=
  ⟨⟨k.heap h.h0.1 (hd _ (by decide)), h.h0.2⟩, ⟨k.heap h.h1.1 (hd _ (by decide)), h.h1.2⟩, ⟨k.heap h.h2.1 (hd _ (by decide)), h.h2.2⟩, ⟨k.heap h.h3.1 (hd _ (by decide)), k.heap h.h3.2.1 (hd _ (by decide)), h.h3.2.2⟩, ⟨k.heap h.h4.1 (hd _ (by decide)), h.h4.2⟩, ⟨k.heap h.h5.1 (hd _ (by decide)), h.h5.2⟩, ⟨k.heap h.h6.1 (hd _ (by decide)), k.heap h.h6.2.1 (hd _ (by decide)), h.h6.2.2⟩, ⟨k.heap h.h7.1 (hd _ (by decide)), h.h7.2⟩⟩
theorem FB.lt {w : World} {b base : Nat} {B : Nat → Nat} (h : FB w b base B) : ∀ i, i < 10 → B i < w.heap.size ∧ base ≤ B i := by
  intro i hi
  match i with
  | 0 => exact ⟨lt_of_heap h.h0.1, h.h0.2⟩
  | 1 => exact ⟨lt_of_heap h.h1.1, h.h1.2⟩
  | 2 => exact ⟨lt_of_heap h.h2.1, h.h2.2⟩
  | 3 => exact ⟨lt_of_heap h.h3.1, h.h3.2.2.1⟩
  | 4 => exact ⟨lt_of_heap h.h4.1, h.h4.2⟩
  | 5 => exact ⟨lt_of_heap h.h5.1, h.h5.2⟩
  | 6 => exact ⟨lt_of_heap h.h6.1, h.h6.2.2.1⟩
  | 7 => exact ⟨lt_of_heap h.h7.1, h.h7.2⟩
  | 8 => exact ⟨lt_of_heap h.h3.2.1, h.h3.2.2.2⟩
  | 9 => exact ⟨lt_of_heap h.h6.2.1, h.h6.2.2.2⟩
  | i + 10 => omega
abbrev PS := PL × Value × Value
structure PaySt (pb g base fbase N : Nat) (B : Nat → Nat) (has : List UInt8) (s : PS) (w : World) : Prop where
  x : w.heap[pb]? = some (.cells (PlC s.1 s.2.1 s.2.2).toArray 26 (0, 0))
  fb : FB w pb fbase B
  f : FS w g ((curL has B 8).flatMap G3)
  r : w.ownsRow base 51 2 s.2.1 s.1.rules.length (s.1.rules.flatMap GR)
  a : w.ownsRow base 65 3 s.2.2 s.1.addrs.length (s.1.addrs.flatMap GA)
  glo : GloN N w
  hb : base ≤ w.heap.size
def payOwn (pb : Nat) (s : PS) (k : Nat) : Prop := k = pb ∨ s.2.1.ownBlock = some k ∨ s.2.2.ownBlock = some k
theorem rows_apart {w : World} {base n m : Nat} {rv av : Value} {xs ys : List Value} (hr : w.ownsRow base 51 2 rv n xs) (ha : w.ownsRow base 65 3 av m ys) : ∀ b, rv.ownBlock = some b → av.ownBlock ≠ some b := by
  intro b h1 h2
  rcases hr.2 with ⟨rfl, _⟩ | ⟨g, cap, cur, rfl, _, hg, _⟩
  · simp [Value.ownBlock] at h1
  · rcases ha.2 with ⟨rfl, _⟩ | ⟨g', cap', cur', rfl, _, hg', _⟩
    · simp [Value.ownBlock] at h2
    · simp [Value.ownBlock] at h1 h2
      subst h1 h2
      rw [hg] at hg'
      simp at hg'
theorem noTake_ca (sl : Value) (w : World) : Ca Tryd.prog 34 #[sl] w fun v w' => v = .bool true ∧ w' = w := by
  refine ca_of_body (args := [sl]) Tryd.func34 rfl (by kernel_rfl) ?_
  (repeat first | (apply wr_assign; exact rfl; with_reducible (conv => enter [6, 3]; whnf)) | apply wr_end | apply wc_seq | apply wc_region | (apply wc_ret; try simp only [thenE, inBlockE, bodyQ]))
  exact leave1 (v := .bool true) rfl rfl ⟨rfl, rfl⟩
theorem payMach {pb g base fbase N : Nat} {B : Nat → Nat} {has : List UInt8} (hBl : ∀ i, i < 10 → B i < base ∧ fbase ≤ B i) (hg : g < base) (hgp : g ≠ pb) (hpf : pb < fbase) (hfb : fbase ≤ base) (hN : N ≤ pb) :
    Mach (PaySt pb g base fbase N B has) (payOwn pb) (.slice (some ⟨g, 0, none⟩) 8 8) (curL has B 8) (fun s => s.1) (fun k s => (k ≤ 3 → s.1.rules = []) ∧ (k ≤ 6 → s.1.addrs = [])) (tkPay has) where
  keep := fun s w w' h k => ⟨k.heap h.x (fun h => h), h.fb.keep k (fun _ _ h => h), k.heap h.f (fun h => h), own_keep h.r k (fun _ _ h => h), own_keep h.a k (fun _ _ h => h), h.glo.kin k, Nat.le_trans h.hb k.size⟩
  lt := fun s w k h e => by
    rcases e with e | e | e
    · subst e; exact lt_of_heap h.x
    · exact (h.r.lt k e).2
    · exact (h.a.lt k e).2
  sl := fun s w h => FS_slR h.f rfl
  glo := fun s w h => by obtain ⟨_, p, q, h, _⟩ := h.glo; exact ⟨p, q, h⟩
  one := curL_one has B 8
  len := by simp [curL]
  step := by
    rintro k x hx ⟨p, rv, av⟩ w fl sl hst hinv hfl hfs hsl hsb
    have hBne : ∀ i, i < 10 → B i ≠ pb := fun i hi => by have := hBl i hi; omega
    have hsp : sl.ownBlock ≠ some pb := fun e => (hsb pb e).2 (.inl rfl)
    obtain ⟨y, hy, rfl⟩ := curL_get hx
    have hk8 : k < 8 := by
      have := (List.getElem?_eq_some_iff.1 hx).1
      simpa [curL] using this
    dsimp only at hinv
    cases hin : inF has (lets.getD k []) with
    | false =>
      have hc : (cF has 8 k y).2.2 = noTake := by
        unfold cF
        have : Nat.blt k 8 = true := by simpa using hk8
        rw [this, hin]; rfl
      rw [hc]
      refine callV_of (args := [sl]) (by kernel_rfl) ((noTake_ca sl w).mono ?_)
      rintro v w' ⟨rfl, rfl⟩
      refine ⟨(p, rv, av), hst, Keeps.refl _ _, fun b hb => .inl hb, .inl ⟨rfl, by unfold tkPay; rw [if_pos hin], fun h => hinv.1 (by omega), fun h => hinv.2 (by omega)⟩⟩
    | true =>
      have hc : cF has 8 k y = y := by
        unfold cF
        have : Nat.blt k 8 = true := by simpa using hk8
        rw [this, hin]; rfl
      rw [hc]
      have hrr : ∀ b, rv.ownBlock = some b → base ≤ b ∧ b < w.heap.size := fun b hb => hst.r.lt b hb
      have haa : ∀ b, av.ownBlock = some b → base ≤ b ∧ b < w.heap.size := fun b hb => hst.a.lt b hb
      have hap := rows_apart hst.r hst.a
      match k with
      | 0 =>
        replace hinv : (0 + 1 ≤ 3 → p.rules = []) ∧ (0 + 1 ≤ 6 → p.addrs = []) := ⟨fun h => hinv.1 (by omega), fun h => hinv.2 (by omega)⟩
        simp [fldL] at hy; subst hy
        refine callV_of (args := [sl]) (by kernel_rfl) ((textTk_ca fl (by omega) p.name sl hst.fb.h0.1 hst.x rfl (hBne 0 (by decide)) hsl hsp).mono ?_)
        rintro v w' ⟨y0, h1, h2, h3, h4⟩
        refine ⟨({ p with name := y0 }, rv, av), ⟨h1, hst.fb.keepB h2 (fun i hi => hBne i hi), h2.heap hst.f hgp, own_keep hst.r h2 (fun b hb e => by have := (hst.r.lt b hb).1; omega), own_keep hst.a h2 (fun b hb e => by have := (hst.a.lt b hb).1; omega), hst.glo.keep h2 (fun i hi e => by omega), Nat.le_trans hst.hb h2.size⟩, h2.mono (fun k _ h => .inl h), fun b hb => .inl hb, ?_⟩
        rcases h3 with ⟨rfl, hk, rfl⟩ | ⟨rfl, hk⟩
        · exact .inl ⟨rfl, by simp only [tkPay, hin, hk, if_true, Bool.true_eq_false, if_false], hinv.1, hinv.2⟩
        · exact .inr ⟨rfl, by simp only [tkPay, hin, hk, Bool.true_eq_false, if_false]; rfl⟩
      | 1 =>
        replace hinv : (1 + 1 ≤ 3 → p.rules = []) ∧ (1 + 1 ≤ 6 → p.addrs = []) := ⟨fun h => hinv.1 (by omega), fun h => hinv.2 (by omega)⟩
        simp [fldL] at hy; subst hy
        refine callV_of (args := [sl]) (by kernel_rfl) ((numTk_ca fl (by omega) p.port sl hst.fb.h1.1 hst.x rfl (hBne 1 (by decide)) hsl hsp).mono ?_)
        rintro v w' ⟨y0, h1, h2, h3, h4⟩
        refine ⟨({ p with port := y0 }, rv, av), ⟨h1, hst.fb.keepB h2 (fun i hi => hBne i hi), h2.heap hst.f hgp, own_keep hst.r h2 (fun b hb e => by have := (hst.r.lt b hb).1; omega), own_keep hst.a h2 (fun b hb e => by have := (hst.a.lt b hb).1; omega), hst.glo.keep h2 (fun i hi e => by omega), Nat.le_trans hst.hb h2.size⟩, h2.mono (fun k _ h => .inl h), fun b hb => .inl hb, ?_⟩
        rcases h3 with ⟨rfl, hk, rfl⟩ | ⟨rfl, hk⟩
        · exact .inl ⟨rfl, by simp only [tkPay, hin, hk, if_true, Bool.true_eq_false, if_false], hinv.1, hinv.2⟩
        · exact .inr ⟨rfl, by simp only [tkPay, hin, hk, Bool.true_eq_false, if_false]; rfl⟩
      | 2 =>
        replace hinv : (2 + 1 ≤ 3 → p.rules = []) ∧ (2 + 1 ≤ 6 → p.addrs = []) := ⟨fun h => hinv.1 (by omega), fun h => hinv.2 (by omega)⟩
        simp [fldL] at hy; subst hy
        refine callV_of (args := [sl]) (by kernel_rfl) ((textTk_ca fl (by omega) p.route sl hst.fb.h2.1 hst.x rfl (hBne 2 (by decide)) hsl hsp).mono ?_)
        rintro v w' ⟨y0, h1, h2, h3, h4⟩
        refine ⟨({ p with route := y0 }, rv, av), ⟨h1, hst.fb.keepB h2 (fun i hi => hBne i hi), h2.heap hst.f hgp, own_keep hst.r h2 (fun b hb e => by have := (hst.r.lt b hb).1; omega), own_keep hst.a h2 (fun b hb e => by have := (hst.a.lt b hb).1; omega), hst.glo.keep h2 (fun i hi e => by omega), Nat.le_trans hst.hb h2.size⟩, h2.mono (fun k _ h => .inl h), fun b hb => .inl hb, ?_⟩
        rcases h3 with ⟨rfl, hk, rfl⟩ | ⟨rfl, hk⟩
        · exact .inl ⟨rfl, by simp only [tkPay, hin, hk, if_true, Bool.true_eq_false, if_false], hinv.1, hinv.2⟩
        · exact .inr ⟨rfl, by simp only [tkPay, hin, hk, Bool.true_eq_false, if_false]; rfl⟩
      | 3 =>
        simp [fldL] at hy; subst hy
        have hr0 := hinv.1 (by decide)
        refine callV_of (args := [sl]) (by kernel_rfl) ((rulesTk_ca fl hfl (fun f hf => (hfs f hf).1) p.rules rv sl (N := N) hst.fb.h3.2.1 hst.fb.h3.1 hst.x rfl hst.r hst.hb (by rw [hr0]; decide) hst.glo ⟨hBne 3 (by decide), hBne 8 (by decide), hN⟩ (fun b hb => by have h1 := hrr b hb; have h2 := hBl 3 (by decide); have h3 := hBl 8 (by decide); omega) hsl (fun b hb => ⟨(hsb b hb).1, fun e => (hsb b hb).2 (.inl e), fun e => (hsb b hb).2 (.inr (.inl e))⟩)).mono ?_)
        rintro v w' ⟨rs', rv', h1, h2, h3, h4, h5⟩
        refine ⟨({ p with rules := rs' }, rv', av), ⟨h1, hst.fb.keepB h3 (fun i hi h => by have hb := hBl i hi; rcases h with h | h; exact hBne i hi h; have := hrr _ h; omega), h3.heap hst.f (fun h => by rcases h with h | h; exact hgp h; have := hrr _ h; omega), h2, own_keep hst.a h3 (fun b hb h => by rcases h with h | h; have := haa b hb; omega; exact hap b h hb), hst.glo.keep h3 (fun i hi h => by rcases h with h | h; omega; have := hrr _ h; omega), Nat.le_trans hst.hb h3.size⟩, h3.mono (fun k _ h => by rcases h with h | h; exact .inl h; exact .inr (.inl h)), fun b hb => ?_, ?_⟩
        · rcases hb with hb | hb | hb
          · exact .inl (.inl hb)
          · rcases h4 b hb with h | h
            · exact .inl (.inr (.inl h))
            · exact .inr h
          · exact .inl (.inr (.inr hb))
        · rcases h5 with ⟨rfl, hk⟩ | ⟨rfl, hk⟩
          · exact .inl ⟨rfl, by simp only [tkPay, hin, hk, Bool.true_eq_false, if_false, Option.map_some], fun h => absurd h (by decide), fun h => hinv.2 (by omega)⟩
          · exact .inr ⟨rfl, by simp only [tkPay, hin, hk, Bool.true_eq_false, if_false, Option.map_none]⟩
      | 4 =>
        replace hinv : (4 + 1 ≤ 3 → p.rules = []) ∧ (4 + 1 ≤ 6 → p.addrs = []) := ⟨fun h => hinv.1 (by omega), fun h => hinv.2 (by omega)⟩
        simp [fldL] at hy; subst hy
        refine callV_of (args := [sl]) (by kernel_rfl) ((numTk_ca fl (by omega) p.policy sl hst.fb.h4.1 hst.x rfl (hBne 4 (by decide)) hsl hsp).mono ?_)
        rintro v w' ⟨y0, h1, h2, h3, h4⟩
        refine ⟨({ p with policy := y0 }, rv, av), ⟨h1, hst.fb.keepB h2 (fun i hi => hBne i hi), h2.heap hst.f hgp, own_keep hst.r h2 (fun b hb e => by have := (hst.r.lt b hb).1; omega), own_keep hst.a h2 (fun b hb e => by have := (hst.a.lt b hb).1; omega), hst.glo.keep h2 (fun i hi e => by omega), Nat.le_trans hst.hb h2.size⟩, h2.mono (fun k _ h => .inl h), fun b hb => .inl hb, ?_⟩
        rcases h3 with ⟨rfl, hk, rfl⟩ | ⟨rfl, hk⟩
        · exact .inl ⟨rfl, by simp only [tkPay, hin, hk, if_true, Bool.true_eq_false, if_false], hinv.1, hinv.2⟩
        · exact .inr ⟨rfl, by simp only [tkPay, hin, hk, Bool.true_eq_false, if_false]; rfl⟩
      | 5 =>
        replace hinv : (5 + 1 ≤ 3 → p.rules = []) ∧ (5 + 1 ≤ 6 → p.addrs = []) := ⟨fun h => hinv.1 (by omega), fun h => hinv.2 (by omega)⟩
        simp [fldL] at hy; subst hy
        refine callV_of (args := [sl]) (by kernel_rfl) ((textTk_ca fl (by omega) p.secret sl hst.fb.h5.1 hst.x rfl (hBne 5 (by decide)) hsl hsp).mono ?_)
        rintro v w' ⟨y0, h1, h2, h3, h4⟩
        refine ⟨({ p with secret := y0 }, rv, av), ⟨h1, hst.fb.keepB h2 (fun i hi => hBne i hi), h2.heap hst.f hgp, own_keep hst.r h2 (fun b hb e => by have := (hst.r.lt b hb).1; omega), own_keep hst.a h2 (fun b hb e => by have := (hst.a.lt b hb).1; omega), hst.glo.keep h2 (fun i hi e => by omega), Nat.le_trans hst.hb h2.size⟩, h2.mono (fun k _ h => .inl h), fun b hb => .inl hb, ?_⟩
        rcases h3 with ⟨rfl, hk, rfl⟩ | ⟨rfl, hk⟩
        · exact .inl ⟨rfl, by simp only [tkPay, hin, hk, if_true, Bool.true_eq_false, if_false], hinv.1, hinv.2⟩
        · exact .inr ⟨rfl, by simp only [tkPay, hin, hk, Bool.true_eq_false, if_false]; rfl⟩
      | 6 =>
        simp [fldL] at hy; subst hy
        have hr0 := hinv.2 (by decide)
        refine callV_of (args := [sl]) (by kernel_rfl) ((addrsTk_ca fl hfl (fun f hf => (hfs f hf).1) p.addrs av sl (N := N) hst.fb.h6.2.1 hst.fb.h6.1 hst.x rfl hst.a hst.hb (by rw [hr0]; decide) hst.glo ⟨hBne 6 (by decide), hBne 9 (by decide), hN⟩ (fun b hb => by have h1 := haa b hb; have h2 := hBl 6 (by decide); have h3 := hBl 9 (by decide); omega) hsl (fun b hb => ⟨(hsb b hb).1, fun e => (hsb b hb).2 (.inl e), fun e => (hsb b hb).2 (.inr (.inr e))⟩)).mono ?_)
        rintro v w' ⟨rs', rv', h1, h2, h3, h4, h5⟩
        refine ⟨({ p with addrs := rs' }, rv, rv'), ⟨h1, hst.fb.keepB h3 (fun i hi h => by have hb := hBl i hi; rcases h with h | h; exact hBne i hi h; have := haa _ h; omega), h3.heap hst.f (fun h => by rcases h with h | h; exact hgp h; have := haa _ h; omega), own_keep hst.r h3 (fun b hb h => by rcases h with h | h; have := hrr b hb; omega; exact hap b hb h), h2, hst.glo.keep h3 (fun i hi h => by rcases h with h | h; omega; have := haa _ h; omega), Nat.le_trans hst.hb h3.size⟩, h3.mono (fun k _ h => by rcases h with h | h; exact .inl h; exact .inr (.inr h)), fun b hb => ?_, ?_⟩
        · rcases hb with hb | hb | hb
          · exact .inl (.inl hb)
          · exact .inl (.inr (.inl hb))
          · rcases h4 b hb with h | h
            · exact .inl (.inr (.inr h))
            · exact .inr h
        · rcases h5 with ⟨rfl, hk⟩ | ⟨rfl, hk⟩
          · exact .inl ⟨rfl, by simp only [tkPay, hin, hk, Bool.true_eq_false, if_false, Option.map_some], fun h => absurd h (by decide), fun h => absurd h (by decide)⟩
          · exact .inr ⟨rfl, by simp only [tkPay, hin, hk, Bool.true_eq_false, if_false, Option.map_none]⟩
      | 7 =>
        replace hinv : (7 + 1 ≤ 3 → p.rules = []) ∧ (7 + 1 ≤ 6 → p.addrs = []) := ⟨fun h => hinv.1 (by omega), fun h => hinv.2 (by omega)⟩
        simp [fldL] at hy; subst hy
        refine callV_of (args := [sl]) (by kernel_rfl) ((textTk_ca fl (by omega) p.key sl hst.fb.h7.1 hst.x rfl (hBne 7 (by decide)) hsl hsp).mono ?_)
        rintro v w' ⟨y0, h1, h2, h3, h4⟩
        refine ⟨({ p with key := y0 }, rv, av), ⟨h1, hst.fb.keepB h2 (fun i hi => hBne i hi), h2.heap hst.f hgp, own_keep hst.r h2 (fun b hb e => by have := (hst.r.lt b hb).1; omega), own_keep hst.a h2 (fun b hb e => by have := (hst.a.lt b hb).1; omega), hst.glo.keep h2 (fun i hi e => by omega), Nat.le_trans hst.hb h2.size⟩, h2.mono (fun k _ h => .inl h), fun b hb => .inl hb, ?_⟩
        rcases h3 with ⟨rfl, hk, rfl⟩ | ⟨rfl, hk⟩
        · exact .inl ⟨rfl, by simp only [tkPay, hin, hk, if_true, Bool.true_eq_false, if_false], hinv.1, hinv.2⟩
        · exact .inr ⟨rfl, by simp only [tkPay, hin, hk, Bool.true_eq_false, if_false]; rfl⟩
      | k + 8 => omega
def getP (kind : Int) (s : List UInt8) : Option PL := if (hasF kind).2 = true then (parseF s).bind fun l => tkAll (tkPay (hasF kind).1) l 8 0 PL0 else none
end Go.Proofs.YthlbgeonobicbaaDoor

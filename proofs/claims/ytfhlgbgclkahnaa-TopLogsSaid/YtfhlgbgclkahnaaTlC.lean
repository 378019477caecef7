/- The functions of TopLogs: what is to be shown of each, shown (2). -/
import Derived.Test.YtfhlgbgclkahnaaTlB
set_option linter.unusedVariables false
set_option linter.unusedSimpArgs false
set_option maxRecDepth 100000
namespace Tl
open Go Fw Go.Proofs

theorem rd_get {l : List Int} {i : Int} (h0 : 0 ≤ i) (h1 : i < l.length) : ∃ (h : i.toNat < l.length), rd (.int .i64) l i = l[i.toNat] := by
  have h : i.toNat < l.length := by omega
  exact ⟨h, by simp [rd, List.getD_eq_getElem?_getD, List.getElem?_eq_getElem h]⟩

theorem index_any' (t : Int → Bool) : ∀ (l : List Int) (i : Int), 0 ≤ i → (Pl.index t l i ≥ 0 ↔ l.any t = true)
  | [], i, h => by simp [Pl.index]
  | x :: l, i, h => by
    have ih := index_any' t l (i + 1) (by omega)
    by_cases hx : t x = true
    · have e : Pl.index t (x :: l) i = i := by simp [Pl.index, hx]
      rw [e]
      simp [hx, h]
    · have hx : t x = false := by simpa using hx
      have e : Pl.index t (x :: l) i = Pl.index t l (i + 1) := by simp [Pl.index, hx]
      rw [e, ih]
      simp [hx]
theorem index_any (t : Int → Bool) (l : List Int) (i : Int) (h : 0 ≤ i) : decide (Pl.index t l i ≥ 0) = l.any t := by
  have := index_any' t l i h
  by_cases hb : l.any t = true
  · rw [hb]; exact decide_eq_true (this.2 hb)
  · rw [Bool.not_eq_true] at hb
    rw [hb]
    exact decide_eq_false fun h => by rw [this.1 h] at hb; cases hb

theorem vc166 : ∀ x, C166.pre x → VC T166 H166 Try.f166 C166 x := by
  rintro ⟨(l : List Int), f, ⟨⟩⟩ ⟨h1, h2⟩
  simp only at h1 h2
  show ∃ (n : Nat),
      itl
        (fun (G : Int × PUnit → Prop) (x : Int × PUnit) =>
          Br (decide (x.fst < (↑l.length : Int)))
            (0 ≤ x.fst ∧
              x.fst < (↑l.length : Int) ∧
                Pl.tellsOK f (rd (Ty.int IntKind.i64) l x.fst) ∧
                  Br (Pl.tells f (rd (Ty.int IntKind.i64) l x.fst)) ((x.fst, ()) = C166.post (l, f, ()))
                    (G (IntKind.i64.wrap (x.fst + 1), ())))
            ((-1, ()) = C166.post (l, f, ())))
        n (0, ())
  have hpost : C166.post (l, f, ()) = (Pl.index (Pl.tells f) l 0, ()) := rfl
  rw [hpost]
  refine itl_rule (fun x => 0 ≤ x.1 ∧ x.1 ≤ (l.length : Int) ∧ Pl.index (Pl.tells f) (l.drop x.1.toNat) x.1 = Pl.index (Pl.tells f) l 0) (fun x => ((l.length : Int) - x.1).toNat) ⟨by decide, by simp only; omega, rfl⟩ ?_
  rintro ⟨(i : Int), ⟨⟩⟩ G ⟨i1, i2, i3⟩ hG
  simp only at i1 i2 i3 ⊢
  refine Br_of (fun hb => ?_) (fun hb => ?_)
  · have hlt := of_decide_eq_true hb
    obtain ⟨hn, hr⟩ := rd_get i1 hlt
    rw [hr]
    rw [List.drop_eq_getElem_cons hn] at i3
    simp only [Pl.index] at i3
    refine ⟨i1, hlt, h2 _ (List.getElem_mem hn), Br_of (fun hc => ?_) (fun hc => ?_)⟩
    · rw [hc] at i3
      rw [← i3]; rfl
    · rw [hc] at i3
      rw [wrap_i64 (by omega) (by omega)]
      refine hG _ ⟨by simp only; omega, by simp only; omega, ?_⟩ (by simp only; omega)
      simp only
      rw [show (i + 1).toNat = i.toNat + 1 by omega]
      exact i3
  · have hge := of_decide_eq_false hb
    have : l.drop i.toNat = [] := List.drop_eq_nil_of_le (by omega)
    rw [this] at i3
    rw [← i3]; rfl

theorem vc164 : ∀ x, C164.pre x → VC T166 H166 Try.f164 C164 x := by
  rintro ⟨(l : List Int), f, ⟨⟩⟩ ⟨h1, h2⟩
  simp only at h1 h2
  show ∃ (n : Nat),
      itl
        (fun (G : Int × PUnit → Prop) (x : Int × PUnit) =>
          Br (decide (x.fst < (↑l.length : Int)))
            (0 ≤ x.fst ∧
              x.fst < (↑l.length : Int) ∧
                Pl.tellsOK f (rd (Ty.int IntKind.i64) l x.fst) ∧
                  Br (Pl.tells f (rd (Ty.int IntKind.i64) l x.fst)) ((x.fst, ()) = C164.post (l, f, ()))
                    (G (IntKind.i64.wrap (x.fst + 1), ())))
            ((-1, ()) = C164.post (l, f, ())))
        n (0, ())
  have hpost : C164.post (l, f, ()) = (Pl.index (Pl.tells f) l 0, ()) := rfl
  rw [hpost]
  refine itl_rule (fun x => 0 ≤ x.1 ∧ x.1 ≤ (l.length : Int) ∧ Pl.index (Pl.tells f) (l.drop x.1.toNat) x.1 = Pl.index (Pl.tells f) l 0) (fun x => ((l.length : Int) - x.1).toNat) ⟨by decide, by simp only; omega, rfl⟩ ?_
  rintro ⟨(i : Int), ⟨⟩⟩ G ⟨i1, i2, i3⟩ hG
  simp only at i1 i2 i3 ⊢
  refine Br_of (fun hb => ?_) (fun hb => ?_)
  · have hlt := of_decide_eq_true hb
    obtain ⟨hn, hr⟩ := rd_get i1 hlt
    rw [hr]
    rw [List.drop_eq_getElem_cons hn] at i3
    simp only [Pl.index] at i3
    refine ⟨i1, hlt, h2 _ (List.getElem_mem hn), Br_of (fun hc => ?_) (fun hc => ?_)⟩
    · rw [hc] at i3
      rw [← i3]; rfl
    · rw [hc] at i3
      rw [wrap_i64 (by omega) (by omega)]
      refine hG _ ⟨by simp only; omega, by simp only; omega, ?_⟩ (by simp only; omega)
      simp only
      rw [show (i + 1).toNat = i.toNat + 1 by omega]
      exact i3
  · have hge := of_decide_eq_false hb
    have : l.drop i.toNat = [] := List.drop_eq_nil_of_le (by omega)
    rw [this] at i3
    rw [← i3]; rfl

theorem vc153 : ∀ x, C153.pre x → VC T153 H0 Try.f153 C153 x := by
  rintro ⟨(l : List Int), f, ⟨⟩⟩ ⟨h1, h2⟩
  show (l.length ≤ 9223372036854775807 ∧ ∀ (y : Int), y ∈ l → Pl.tellsOK f y) ∧
      (decide (Pl.index (Pl.tells f) l 0 ≥ 0), ()) = C153.post (l, f, ())
  refine ⟨⟨h1, h2⟩, ?_⟩
  rw [index_any _ _ _ (by decide)]
  rfl
theorem vc139 : ∀ x, C139.pre x → VC T139 H0 Try.f139 C139 x := by
  rintro ⟨(l : List Int), f, ⟨⟩⟩ ⟨h1, h2⟩
  show (l.length ≤ 9223372036854775807 ∧ ∀ (y : Int), y ∈ l → Pl.tellsOK f y) ∧
      (decide (Pl.index (Pl.tells f) l 0 ≥ 0), ()) = C139.post (l, f, ())
  refine ⟨⟨h1, h2⟩, ?_⟩
  rw [index_any _ _ _ (by decide)]
  rfl

theorem not_any {p q : Int → Bool} : ∀ {l : List Int}, (∀ x ∈ l, (!p x) = q x) → (!l.any p) = l.all q
  | [], _ => rfl
  | x :: l, h => by
    simp only [List.any_cons, List.all_cons, Bool.not_or]
    rw [h x (by simp), not_any fun y hy => h y (by simp [hy])]

theorem vc126 : ∀ x, C126.pre x → VC T126 H0 Try.f126 C126 x := by
  rintro ⟨(lo : Int), (hi : Int), (l : List Int), ⟨⟩⟩ h1
  show (l.length ≤ 9223372036854775807 ∧
        ∀ (y : Int), y ∈ l → Pl.tellsOK (D.clo 154 [D.rptr [D.int IntKind.i64 lo], D.rptr [D.int IntKind.i64 hi]]) y) ∧
      (!l.any (Pl.tells (D.clo 154 [D.rptr [D.int IntKind.i64 lo], D.rptr [D.int IntKind.i64 hi]])), ()) =
        C126.post (lo, hi, l, ())
  refine ⟨⟨h1, fun y _ => .inl ⟨lo, hi, rfl⟩⟩, ?_⟩
  show _ = (l.all (Pl.inB lo hi), ())
  rw [not_any (q := Pl.inB lo hi) fun x _ => ?_]
  show (!(decide (x < lo) || decide (x > hi))) = (decide (lo ≤ x) && decide (x ≤ hi))
  by_cases h : x < lo <;> by_cases h' : x > hi <;> simp [h, h'] <;> omega

theorem vc130 : ∀ x, C130.pre x → VC T130 H0 Try.f130 C130 x := by
  rintro ⟨⟨(r : Int), (p : Int), (g : Int), ⟨⟩⟩, (l : List Int), ⟨⟩⟩ ⟨h1, h2, h3⟩
  simp only at h1 h2 h3
  show l.length ≤ 9223372036854775807 ∧ (l.all (Pl.inB 0 (IntKind.i64.wrap (p - 1))), ()) = C130.post ((r, p, g, ()), l, ())
  rw [wrap_i64 (by omega) (by omega)]
  exact ⟨h3, rfl⟩

theorem inB_iff {lo hi x : Int} : Pl.inB lo hi x = true ↔ lo ≤ x ∧ x ≤ hi := by simp [Pl.inB]

theorem vc132 : ∀ x, C132.pre x → VC T132 H0 Try.f132 C132 x := by
  rintro ⟨⟨(r : Int), (p : Int), (g : Int), ⟨⟩⟩, (l : List Int), ⟨⟩⟩ ⟨h1, h2, h3, h4, h5⟩
  simp only at h1 h2 h3 h4 h5
  show l.length ≤ 9223372036854775807 ∧
      Br (l.all (Pl.inB 1 (IntKind.i64.wrap (r - 1))))
        ((l.length ≤ 9223372036854775807 ∧
            ∀ (y : Int),
              y ∈ l → Pl.tellsOK (D.clo 159 [D.rptr [D.int IntKind.i64 r, D.int IntKind.i64 p, D.int IntKind.i64 g]]) y) ∧
          (!l.any (Pl.tells (D.clo 159 [D.rptr [D.int IntKind.i64 r, D.int IntKind.i64 p, D.int IntKind.i64 g]])), ()) =
            C132.post ((r, p, g, ()), l, ()))
        ((false, ()) = C132.post ((r, p, g, ()), l, ()))
  rw [wrap_i64 (by omega) (by omega)]
  refine ⟨h5, Br_of (fun hb => ?_) (fun hb => ?_)⟩
  · have hall : ∀ x ∈ l, 1 ≤ x ∧ x ≤ r - 1 := fun x hx => inB_iff.1 (List.all_eq_true.1 hb x hx)
    refine ⟨⟨h5, fun y hy => .inr (.inl ⟨r, p, g, rfl, h1, h2, h3, h4, ?_⟩)⟩, ?_⟩
    · exact ⟨by have := hall y hy; omega, by have := hall y hy; omega⟩
    · show _ = (l.all (Pl.isElt r p), ())
      rw [not_any (q := Pl.isElt r p) fun x hx => ?_]
      show (!decide (Pl.pw r x p ≠ 1)) = (Pl.inB 1 (r - 1) x && decide (Pl.pw r x p = 1))
      rw [inB_iff.2 (hall x hx)]
      by_cases h : Pl.pw r x p = 1 <;> simp [h]
  · show _ = (l.all (Pl.isElt r p), ())
    have : l.all (Pl.isElt r p) = false := by
      rw [← Bool.not_eq_true, List.all_eq_true]
      intro h
      rw [← Bool.not_eq_true, List.all_eq_true] at hb
      refine hb fun x hx => ?_
      have := h x hx
      unfold Pl.isElt at this
      simp only [Bool.and_eq_true] at this
      exact this.1
    rw [this]

theorem all1 {p : Int → Bool} {x : Int} : [x].all p = p x := by simp

theorem vc129 : ∀ x, C129.pre x → VC T129 H0 Try.f129 C129 x := by
  rintro ⟨⟨(r : Int), (p : Int), (g : Int), ⟨⟩⟩, ⟨⟩⟩ -
  show [r].length ≤ 9223372036854775807 ∧
      Br (![r].all (Pl.inB 3 2147483647)) ((80, ()) = C129.post ((r, p, g, ()), ()))
        ([p].length ≤ 9223372036854775807 ∧
          Br (![p].all (Pl.inB 3 65521)) ((80, ()) = C129.post ((r, p, g, ()), ()))
            (p ≠ 0 ∧
              Br ((IntKind.i64.wrap (r - 1)).tmod p != 0) ((80, ()) = C129.post ((r, p, g, ()), ()))
                ([g].length ≤ 9223372036854775807 ∧
                  Br (![g].all (Pl.inB 2 (IntKind.i64.wrap (r - 1)))) ((80, ()) = C129.post ((r, p, g, ()), ()))
                    (r ≤ 2147483647 ∧
                      Br (!Pl.isPrime r) ((80, ()) = C129.post ((r, p, g, ()), ()))
                        (p ≤ 2147483647 ∧
                          Br (!Pl.isPrime p) ((80, ()) = C129.post ((r, p, g, ()), ()))
                            ((2 ≤ r ∧ r ≤ 2147483647 ∧ 0 ≤ g ∧ 0 ≤ p ∧ p ≤ 9223372036854775807) ∧
                              Br (Pl.pw r (g % r) p != 1) ((80, ()) = C129.post ((r, p, g, ()), ()))
                                ((0, ()) = C129.post ((r, p, g, ()), ()))))))))
  have hpost : C129.post ((r, p, g, ()), ()) = (Pl.checkG r p g, ()) := rfl
  rw [hpost]
  simp only [all1]
  refine ⟨by simp, Br_of (fun h1 => ?_) (fun h1 => ?_)⟩
  · simp [Pl.checkG, h1]
  have h1' : Pl.inB 3 2147483647 r = true := by simpa using h1
  have r1 := inB_iff.1 h1'
  refine ⟨by simp, Br_of (fun h2 => ?_) (fun h2 => ?_)⟩
  · simp [Pl.checkG, h2]
  have h2' : Pl.inB 3 65521 p = true := by simpa using h2
  have r2 := inB_iff.1 h2'
  rw [wrap_i64 (x := r - 1) (by omega) (by omega), tmod_nn (by omega)]
  refine ⟨by omega, Br_of (fun h3 => ?_) (fun h3 => ?_)⟩
  · have : ¬ (r - 1) % p = 0 := by simpa using h3
    simp [Pl.checkG, this]
  have h3' : (r - 1) % p = 0 := by simpa using h3
  refine ⟨by simp, Br_of (fun h4 => ?_) (fun h4 => ?_)⟩
  · simp [Pl.checkG, h4]
  have h4' : Pl.inB 2 (r - 1) g = true := by simpa using h4
  have r4 := inB_iff.1 h4'
  refine ⟨r1.2, Br_of (fun h5 => ?_) (fun h5 => ?_)⟩
  · simp [Pl.checkG, h5]
  refine ⟨by omega, Br_of (fun h6 => ?_) (fun h6 => ?_)⟩
  · simp [Pl.checkG, h6]
  have h5' : Pl.isPrime r = true := by simpa using h5
  have h6' : Pl.isPrime p = true := by simpa using h6
  rw [Int.emod_eq_of_lt (a := g) (by omega) (by omega)]
  refine ⟨⟨by omega, r1.2, by omega, by omega, by omega⟩, Br_of (fun h7 => ?_) (fun h7 => ?_)⟩
  · have : ¬ Pl.pw r g p = 1 := by simpa using h7
    simp [Pl.checkG, this]
  · have : Pl.pw r g p = 1 := by simpa using h7
    simp [Pl.checkG, h1', h2', h3', h4', h5', h6', this]

theorem checkG_ok {r p g : Int} (h : Pl.checkG r p g = 0) : 3 ≤ r ∧ r ≤ 2147483647 ∧ 3 ≤ p ∧ p ≤ 65521 ∧ 2 ≤ g ∧ g ≤ r - 1 := by
  unfold Pl.checkG at h
  cases hb : (!(Pl.inB 3 2147483647 r) || !(Pl.inB 3 65521 p) || !decide ((r - 1) % p = 0) || !(Pl.inB 2 (r - 1) g) || !(Pl.isPrime r) || !(Pl.isPrime p) || !decide (Pl.pw r g p = 1)) with
  | true => rw [hb] at h; simp at h
  | false =>
    simp only [Bool.or_eq_false_iff, Bool.not_eq_false'] at hb
    obtain ⟨⟨⟨⟨⟨⟨h1, h2⟩, h3⟩, h4⟩, _⟩, _⟩, _⟩ := hb
    have := inB_iff.1 h1
    have := inB_iff.1 h2
    have := inB_iff.1 h4
    omega

theorem vc86 : ∀ x, C86.pre x → VC T86 H0 Try.f86 C86 x := by
  rintro ⟨⟨(r : Int), (p : Int), (g : Int), ⟨⟩⟩, (n : Int), ⟨⟩⟩ h
  have h : Pl.checkG r p g = 0 := h
  have hr := checkG_ok h
  show True ∧
      Br (Pl.checkG r p g != 0) ((0, Pl.checkG r p g, ()) = C86.post ((r, p, g, ()), n, ()))
        ((p ≤ 65536 ∧ 0 ≤ p ∧ [n].length ≤ 9223372036854775807) ∧
          Br (![n].all (Pl.inB 0 (p - 1))) ((0, 1, ()) = C86.post ((r, p, g, ()), n, ()))
            ((2 ≤ r ∧ r ≤ 2147483647 ∧ 0 ≤ g ∧ g < r ∧ 0 ≤ n ∧ n ≤ 9223372036854775807) ∧
              (Pl.pw r g n, 0, ()) = C86.post ((r, p, g, ()), n, ())))
  have hpost : C86.post ((r, p, g, ()), n, ()) = (bif Pl.inB 0 (p - 1) n then Pl.pw r g n else 0, bif Pl.inB 0 (p - 1) n then 0 else 1, ()) := rfl
  rw [hpost]
  simp only [all1]
  rw [h]
  refine ⟨trivial, Br_of (fun hb => by simp at hb) (fun hb => ?_)⟩
  refine ⟨⟨by omega, by omega, by simp⟩, Br_of (fun hc => ?_) (fun hc => ?_)⟩
  · have : Pl.inB 0 (p - 1) n = false := by simpa using hc
    rw [this]; rfl
  · have hin : Pl.inB 0 (p - 1) n = true := by simpa using hc
    have := inB_iff.1 hin
    rw [hin]
    exact ⟨⟨by omega, by omega, by omega, by omega, by omega, by omega⟩, rfl⟩

theorem vc87 : ∀ x, C87.pre x → VC T87 H0 Try.f87 C87 x := by
  rintro ⟨⟨(r : Int), (p : Int), (g : Int), ⟨⟩⟩, (n : Int), ⟨⟩⟩ h
  have h : Pl.checkG r p g = 0 := h
  have hr := checkG_ok h
  show True ∧
      Br (Pl.checkG r p g == 0)
        ((2 ≤ r ∧ r ≤ 2147483647 ∧ 0 ≤ p ∧ p ≤ 65536 ∧ [n].length ≤ 9223372036854775807) ∧
          ([n].all (Pl.isElt r p), ()) = C87.post ((r, p, g, ()), n, ()))
        ((false, ()) = C87.post ((r, p, g, ()), n, ()))
  have hpost : C87.post ((r, p, g, ()), n, ()) = (Pl.isElt r p n, ()) := rfl
  rw [hpost]
  simp only [all1]
  rw [h]
  refine ⟨trivial, Br_of (fun hb => ?_) (fun hb => by simp at hb)⟩
  exact ⟨⟨by omega, by omega, by omega, by omega, by simp⟩, trivial⟩

theorem vc133 : ∀ x, C133.pre x → VC T133 H0 Try.f133 C133 x := by
  rintro ⟨x, ⟨⟩⟩ h
  have h : x = ((23, 11, 4, ()), 2, 0, 1, ()) := h
  subst h
  show True ∧
      Br (Pl.checkG 23 11 4 != 0) ((Pl.checkG 23 11 4, ()) = C133.post (((23, 11, 4, ()), 2, 0, 1, ()), ()))
        (Br (decide (2 < 2)) ((1, ()) = C133.post (((23, 11, 4, ()), 2, 0, 1, ()), ()))
          (Br (decide (2 > 16)) ((1, ()) = C133.post (((23, 11, 4, ()), 2, 0, 1, ()), ()))
            (Br (decide (2 ≥ 11)) ((1, ()) = C133.post (((23, 11, 4, ()), 2, 0, 1, ()), ()))
              (Br (decide (0 < 0)) ((1, ()) = C133.post (((23, 11, 4, ()), 2, 0, 1, ()), ()))
                (Br (decide (0 ≥ 2)) ((1, ()) = C133.post (((23, 11, 4, ()), 2, 0, 1, ()), ()))
                  (Br (decide (1 < 1)) ((1, ()) = C133.post (((23, 11, 4, ()), 2, 0, 1, ()), ()))
                    (Br (decide (1 > 90)) ((1, ()) = C133.post (((23, 11, 4, ()), 2, 0, 1, ()), ()))
                      ((0, ()) = C133.post (((23, 11, 4, ()), 2, 0, 1, ()), ())))))))))
  have hc : Pl.checkG 23 11 4 = 0 := by decide
  rw [hc]
  refine ⟨trivial, Br_of (fun hb => by simp at hb) (fun hb => ?_)⟩
  refine Br_of (fun hb => by simp at hb) (fun hb => ?_)
  refine Br_of (fun hb => by simp at hb) (fun hb => ?_)
  refine Br_of (fun hb => by simp at hb) (fun hb => ?_)
  refine Br_of (fun hb => by simp at hb) (fun hb => ?_)
  refine Br_of (fun hb => by simp at hb) (fun hb => ?_)
  refine Br_of (fun hb => by simp at hb) (fun hb => ?_)
  refine Br_of (fun hb => by simp at hb) (fun hb => ?_)
  rfl

theorem vc95 : ∀ x, C95.pre x → VC T0 H0 Try.f95 C95 x := by
  rintro ⟨x, (a : Int), ⟨⟩⟩ ⟨p, g, h1, h2, h3⟩
  simp only at h1 h2 h3
  subst h1
  show p ≠ 0 ∧ p ≠ 0 ∧ ((IntKind.i64.wrap (a.tmod p + p)).tmod p, ()) = C95.post (fieldD p g, a, ())
  have hpost : C95.post (fieldD p g, a, ()) = (a % p, ()) := rfl
  rw [hpost]
  have e1 : -p < a.tmod p ∧ a.tmod p < p := by
    have h4 := Int.tmod_lt_of_pos a (b := p) (by omega)
    have h5 := Int.lt_tmod_of_pos a (b := p) (by omega)
    exact ⟨h5, h4⟩
  rw [wrap_i64 (by omega) (by omega), tmod_nn (by omega)]
  refine ⟨by omega, by omega, ?_⟩
  congr 1
  rw [Int.add_emod_right, Int.tmod_def, Int.sub_mul_emod_self_left]

end Tl

/- An abstract layer over the walk, 13b: rows that are renumbered and forgotten at the head of a loop. No program in sight. -/
import Derived.Test.YtnahhdbheeinfaaAlAny
namespace Go.AL

/-! What is known of x is known of y, y's row i being x's row ids[i]. -/
mutual
def leA (ids : List Nat) : A → A → Prop
  | _, .any => True
  | x, .own i off len cb ex => x = .own (ids.getD i 0) off len cb ex ∨ (x = .sl true [] ∧ len = 0 ∧ cb = 0 ∧ ex = true)
  | x, .pto i sz j co => x = .pto (ids.getD i 0) sz j co
  | x, .mp i => x = .mp (ids.getD i 0)
  | x, .sl f es => x = .sl f es ∨ (f = false ∧ x = .sl true es)
  | .agg cs, .agg ds => leL ids cs ds
  | .tup cs, .tup ds => leL ids cs ds
  | .fn f cs, .fn g ds => f = g ∧ leL ids cs ds
  | .ub, .ub => True
  | .bool _, .ub => True
  | x, .int k n => x = .int k n
  | x, .bool b => x = .bool b
  | x, .str l => x = .str l
  | x, .ptr d => x = .ptr d
  | x, .nptr => x = .nptr
  | x, .nfn => x = .nfn
  | _, _ => False
def leL (ids : List Nat) : List A → List A → Prop
  | [], [] => True
  | x :: xs, y :: ys => leA ids x y ∧ leL ids xs ys
  | _, _ => False
end

theorem leL_len {ids : List Nat} : ∀ {xs ys : List A}, leL ids xs ys → ys.length = xs.length
  | [], [], _ => rfl
  | _ :: _, _ :: _, h => by simp [leL] at h; simp [leL_len h.2]
  | [], _ :: _, h => by simp [leL] at h
  | _ :: _, [], h => by simp [leL] at h

theorem leL_get {ids : List Nat} : ∀ {xs ys : List A}, leL ids xs ys → ∀ (i : Nat) (y : A), ys[i]? = some y → ∃ x, xs[i]? = some x ∧ leA ids x y
  | [], [], _, i, y, h => by simp at h
  | x :: xs, y' :: ys, h, 0, y, hy => by simp [leL] at h; simp at hy; subst hy; exact ⟨x, by simp, h.1⟩
  | x :: xs, y' :: ys, h, i + 1, y, hy => by simp [leL] at h; simp at hy; simpa using leL_get h.2 i y hy
  | [], _ :: _, h, _, _, _ => by simp [leL] at h
  | _ :: _, [], h, _, _, _ => by simp [leL] at h

/-- Where the rows of ys lie. -/
def rnMu (μ : Mu) (ids : List Nat) : Mu := ids.map fun j => μ.getD j (0, 0)

/-! All rows of y are there. -/
mutual
def hasR (n : Nat) : A → Prop
  | .own i _ _ cb ex => i < n ∨ (cb = 0 ∧ ex = true)
  | .pto i _ _ _ => i < n
  | .mp i => i < n
  | .agg cs => hasRL n cs
  | .tup cs => hasRL n cs
  | .fn _ cs => hasRL n cs
  | _ => True
def hasRL (n : Nat) : List A → Prop
  | [] => True
  | x :: xs => hasR n x ∧ hasRL n xs
end

theorem hasRL_get {n : Nat} : ∀ {xs : List A}, hasRL n xs → ∀ (i : Nat) (x : A), xs[i]? = some x → hasR n x
  | [], _, i, x, h => by simp at h
  | y :: ys, hn, 0, x, h => by simp at h; subst h; simp [hasRL] at hn; exact hn.1
  | y :: ys, hn, i + 1, x, h => by simp at h; simp [hasRL] at hn; exact hasRL_get hn.2 i x h

theorem getD_of_lt {ids : List Nat} {i : Nat} (h : i < ids.length) : ids[i]? = some (ids.getD i 0) := by
  rw [List.getD_eq_getElem?_getD, List.getElem?_eq_getElem h]; rfl

theorem rnMu_get {μ : Mu} {ids : List Nat} {i : Nat} {b : Nat × Nat} (hi : i < ids.length) (h : μ[ids.getD i 0]? = some b) : (rnMu μ ids)[i]? = some b := by
  simp only [rnMu, List.getElem?_map, getD_of_lt hi, Option.map_some]
  rw [List.getD_eq_getElem?_getD, h]; rfl

theorem rep_ren {P : Program} {w : World} {F : Fz} {μ : Mu} {ids : List Nat} {x : A} {v : Value} (h : Rep P w F μ x v) : ∀ {y : A}, leA ids x y → hasR ids.length y → Rep P w F (rnMu μ ids) y v := by
  induction h with
  | int μ k n => intro y hle hr; cases y <;> simp [leA] at hle <;> first | (obtain ⟨rfl, rfl⟩ := hle; exact .int _ _ _) | exact .any _ _
  | bool μ b => intro y hle hr; cases y <;> simp [leA] at hle <;> first | (subst hle; exact .bool _ _) | exact .any _ _ | exact .ub _ _
  | ub μ b => intro y hle hr; cases y <;> simp [leA] at hle <;> first | exact .any _ _ | exact .ub _ _
  | str μ l => intro y hle hr; cases y <;> simp [leA] at hle <;> first | (subst hle; exact .str _ _) | exact .any _ _
  | slnil μ full a =>
    intro y hle hr
    cases y <;> simp [leA] at hle <;> try exact .any _ _
    · obtain ⟨_, rfl⟩ | ⟨_, _, rfl⟩ := hle <;> exact .slnil _ _ _
    · obtain ⟨rfl, rfl, rfl, rfl⟩ := hle; exact .ownn _ _ _ _
  | sl μ full es b off n cap sz V hn hcap hmax hfull hsz hrep hcell ih =>
    intro y hle hr
    cases y <;> simp [leA] at hle <;> try exact .any _ _
    · obtain ⟨rfl, rfl⟩ | ⟨rfl, rfl, rfl⟩ := hle
      · exact .sl _ _ _ b off n cap sz V hn hcap hmax hfull hsz hrep hcell
      · exact .sl _ _ _ b off n cap sz V hn hcap hmax (by simp) hsz hrep hcell
    · obtain ⟨⟨rfl, rfl⟩, rfl, rfl, rfl⟩ := hle
      have hn0 : n = 0 := by simpa using hn
      subst hn0
      have := hfull rfl
      subst this
      exact .ownn _ _ _ _
  | own μ id off len cb ex b bs cap ty n hμ hs hfit hlen hcb hmax hex ao hat =>
    intro y hle hr
    cases y <;> simp [leA] at hle <;> try exact .any _ _
    rename_i i off' len' cb' ex'
    obtain ⟨h1, rfl, rfl, rfl, rfl⟩ := hle
    simp only [hasR] at hr
    rcases hr with hr | ⟨rfl, rfl⟩
    · exact .own _ i off len cb ex b bs cap ty n (rnMu_get hr (by rw [List.getD_eq_getElem?_getD]; rw [← h1]; exact hμ)) hs hfit hlen hcb hmax hex ao hat
    · have := hex rfl
      subst this
      have : len = 0 := by omega
      subst this
      exact .ownn _ _ _ _
  | ownn μ id off a =>
    intro y hle hr
    cases y <;> simp [leA] at hle <;> try exact .any _ _
    obtain ⟨h1, rfl, rfl, rfl, rfl⟩ := hle
    exact .ownn _ _ _ _
  | ptr μ d b off v hrep hnc hcell ih =>
    intro y hle hr
    cases y <;> simp [leA] at hle <;> try exact .any _ _
    subst hle
    exact .ptr _ _ b off v hrep hnc hcell
  | pto μ id sz i co b bs hμ =>
    intro y hle hr
    cases y <;> simp [leA] at hle <;> try exact .any _ _
    obtain ⟨h1, rfl, rfl, rfl⟩ := hle
    simp only [hasR] at hr
    exact .pto _ _ _ _ _ b bs (rnMu_get hr (by rw [List.getD_eq_getElem?_getD]; rw [← h1]; exact hμ))
  | nptr μ => intro y hle hr; cases y <;> simp [leA] at hle <;> first | exact .nptr _ | exact .any _ _
  | agg μ cs vs hl h1 h ih =>
    intro y hle hr
    cases y <;> simp [leA] at hle <;> try exact .any _ _
    rename_i ds
    simp only [hasR] at hr
    refine .agg _ ds vs (by rw [hl, leL_len hle]) h1 fun i c u hc hu => ?_
    obtain ⟨x, hx, hxc⟩ := leL_get hle i c hc
    exact ih i x u hx hu hxc (hasRL_get hr i c hc)
  | tup μ cs vs hl h ih =>
    intro y hle hr
    cases y <;> simp [leA] at hle <;> try exact .any _ _
    rename_i ds
    simp only [hasR] at hr
    refine .tup _ ds vs (by rw [hl, leL_len hle]) fun i c u hc hu => ?_
    obtain ⟨x, hx, hxc⟩ := leL_get hle i c hc
    exact ih i x u hx hu hxc (hasRL_get hr i c hc)
  | fn μ f cs vs hl h ih =>
    intro y hle hr
    cases y <;> simp [leA] at hle <;> try exact .any _ _
    rename_i g ds
    simp only [hasR] at hr
    obtain ⟨rfl, hle⟩ := hle
    refine .fn _ f ds vs (by rw [hl, leL_len hle]) fun i c u hc hu => ?_
    obtain ⟨x, hx, hxc⟩ := leL_get hle i c hc
    exact ih i x u hx hu hxc (hasRL_get hr i c hc)
  | nfn μ => intro y hle hr; cases y <;> simp [leA] at hle <;> first | exact .nfn _ | exact .any _ _
  | mp μ id b hμ =>
    intro y hle hr
    cases y <;> simp [leA] at hle <;> try exact .any _ _
    rename_i i
    simp only [hasR] at hr
    exact .mp _ i b (rnMu_get hr (by rw [List.getD_eq_getElem?_getD]; rw [← hle]; exact hμ))
  | any μ v => intro y hle hr; cases y <;> simp [leA] at hle; exact .any _ _

theorem leA_shp {P : Program} {ids : List Nat} {t : TypeId} {x y : A} (h : leA ids x y) (hy : y ≠ .any) (hs : shp P t x = true) : shp P t y = true := by
  cases x <;> cases y <;> simp [leA, shp] at h hs hy ⊢ <;> first | exact hs | (simp_all; done) | skip
  all_goals (have := leL_len h; exact ⟨hs.1, by rw [this]; exact hs.2⟩)

def isAny : A → Bool
  | .any => true
  | _ => false
/-- Nothing is forgotten whole. -/
def noany : List A → Bool
  | [] => true
  | x :: xs => !isAny x && noany xs
theorem noany_mem : ∀ {xs : List A}, noany xs = true → ∀ e ∈ xs, e ≠ .any
  | [], _, e, he => by simp at he
  | x :: xs, h, e, he => by
    simp only [noany, Bool.and_eq_true] at h
    rcases List.mem_cons.1 he with rfl | he
    · intro h2; rw [h2] at h; simp [isAny] at h
    · exact noany_mem h.2 e he
@[simp] theorem noany_append (xs ys : List A) : noany (xs ++ ys) = (noany xs && noany ys) := by
  induction xs with
  | nil => simp [noany]
  | cons x xs ih => simp [noany, ih, Bool.and_assoc]
attribute [simp] isAny noany

/-- Rows. -/
def leRow (ids : List Nat) (n : Nat) (H : List Row) (j : Nat) (y : Row) : Prop :=
  y.live = false ∨ (∃ x, H[j]? = some x ∧ x.live = true ∧ x.ty = y.ty ∧ x.sz = y.sz ∧ x.f ≤ y.f ∧ leL ids x.es y.es ∧ hasRL n y.es ∧ noany y.es = true ∧ y.sz ≠ 0) ∨ (y.sz = 0 ∧ H[j]? = some y)
def leRows (ids : List Nat) (n : Nat) (H : List Row) : List Nat → List Row → Prop
  | [], [] => True
  | j :: js, y :: ys => leRow ids n H j y ∧ leRows ids n H js ys
  | _, _ => False

theorem leRows_len {ids : List Nat} {n : Nat} {H : List Row} : ∀ {js : List Nat} {ys : List Row}, leRows ids n H js ys → ys.length = js.length
  | [], [], _ => rfl
  | _ :: _, _ :: _, h => by simp [leRows_len h.2]
  | [], _ :: _, h => h.elim
  | _ :: _, [], h => h.elim

theorem leRows_get {ids : List Nat} {n : Nat} {H : List Row} : ∀ {js : List Nat} {ys : List Row}, leRows ids n H js ys → ∀ (i : Nat) (y : Row), ys[i]? = some y → ∃ j, js[i]? = some j ∧ leRow ids n H j y
  | [], [], _, i, y, h => by simp at h
  | j :: js, y' :: ys, h, 0, y, hy => by simp at hy; subst hy; exact ⟨j, by simp, h.1⟩
  | j :: js, y' :: ys, h, i + 1, y, hy => by simp at hy; simpa using leRows_get h.2 i y hy
  | [], _ :: _, h, _, _, _ => h.elim
  | _ :: _, [], h, _, _, _ => h.elim

theorem hsren {P : Program} {w : World} {F0 : Fz} {μ : Mu} {H H' : List Row} {ids : List Nat} (hs : HS P w F0 μ H) (hnd : ids.Nodup) (hH : leRows ids ids.length H ids H') :
    HS P w F0 (rnMu μ ids) H' ∧ Adv w (Fof μ H) w (Fof (rnMu μ ids) H') := by
  have hlen := leRows_len hH
  have get : ∀ (i : Nat) (y : Row) (b bs : Nat), H'[i]? = some y → y.live = true → (rnMu μ ids)[i]? = some (b, bs) → ∃ j x, ids[i]? = some j ∧ H[j]? = some x ∧ μ[j]? = some (b, bs) ∧ x.live = true ∧ x.ty = y.ty ∧ x.sz = y.sz ∧ x.f ≤ y.f ∧ (leL ids x.es y.es ∧ hasRL ids.length y.es ∧ noany y.es = true ∧ y.sz ≠ 0 ∨ y.sz = 0 ∧ x = y) := by
    intro i y b bs hy hl hb
    obtain ⟨j, hj, hr⟩ := leRows_get hH i y hy
    have hμj : ∀ x, H[j]? = some x → μ[j]? = some (b, bs) := by
      intro x h1
      have hjl : j < μ.length := by rw [hs.len]; exact (List.getElem?_eq_some_iff.1 h1).1
      simp only [rnMu, List.getElem?_map, hj, Option.map_some] at hb
      rw [List.getD_eq_getElem?_getD, List.getElem?_eq_getElem hjl] at hb
      rw [List.getElem?_eq_getElem hjl]
      simpa using hb
    rcases hr with hr | ⟨x, h1, h2, h3, h4, h5, h6, h7, h8, h9⟩ | ⟨h1, h2⟩
    · rw [hl] at hr; cases hr
    · exact ⟨j, x, hj, h1, hμj x h1, h2, h3, h4, h5, .inl ⟨h6, h7, h8, h9⟩⟩
    · exact ⟨j, y, hj, h2, hμj y h2, hl, rfl, rfl, Nat.le_refl _, .inr ⟨h1, rfl⟩⟩
  have hm : ∀ b o, Fof (rnMu μ ids) H' b o → Fof μ H b o := by
    rintro b o ⟨i, y, bs, h1, h2, h3, h4⟩
    obtain ⟨j, x, _, g1, g2, g3, _, g5, g6, _⟩ := get i y b bs h1 h2 h3
    refine ⟨j, x, bs, g1, g3, g2, ?_⟩
    have := Nat.mul_le_mul_right y.sz g6
    rw [g5]; omega
  have hA : Adv w (Fof μ H) w (Fof (rnMu μ ids) H') := ⟨rfl, rfl, rfl, Nat.le_refl _, fun _ _ _ h _ => h, fun b o _ h => hm b o h, fun _ _ _ h => h, fun _ _ _ => rfl⟩
  refine ⟨⟨by simp [rnMu, hlen], hs.bound, ?_, ?_, ?_⟩, hA⟩
  · intro i y b bs hy hl hb
    obtain ⟨j, x, g0, g1, g2, g3, g4, g5, g6, g7⟩ := get i y b bs hy hl hb
    rcases g7 with ⟨g7, g8, g9, g10⟩ | ⟨g10, rfl⟩
    case inr =>
      rcases hs.row j x b bs g1 g3 g2 with ⟨_, _, _, c3, _⟩ | c1
      · exact (c3 g10).elim
      · exact .inr (c1.adv (hA.join F0) rfl)
    obtain ⟨cur, c1, c2, c3, c4, c5⟩ := hs.cellsZ g1 g3 g2 (by rw [g5]; exact g10)
    refine .inl ⟨cur, by rw [← g4]; exact c1, by rw [← g4, ← g5]; exact c2, by rw [← g5]; exact c3, by rw [leL_len g7, ← g5]; exact c4, ?_⟩
    intro k e he
    obtain ⟨d, hd, hle⟩ := leL_get g7 k e he
    obtain ⟨k1, V, k2, k3⟩ := c5 k d hd
    refine ⟨by rw [← g4]; exact leA_shp hle (noany_mem g9 e (List.mem_of_getElem? he)) k1, V, ?_, by rw [← g5]; exact k3⟩
    exact (rep_ren k2 hle (hasRL_get g8 k e he)).mono (fun b o _ hf => hf.imp id (hm b o)) (List.prefix_refl _)
  · intro i i' y y' b bs bs' hy hl hy' hl' hb hb'
    obtain ⟨j, x, g0, g1, g2, g3, _⟩ := get i y b bs hy hl hb
    obtain ⟨j', x', g0', g1', g2', g3', _⟩ := get i' y' b bs' hy' hl' hb'
    have := hs.inj j j' x x' b bs bs' g1 g3 g1' g3' g2 g2'
    subst this
    exact (List.getElem?_inj (List.getElem?_eq_some_iff.1 g0).1 hnd).1 (g0.trans g0'.symm)
  · intro i y b bs o hy hl hb
    obtain ⟨j, x, g0, g1, g2, g3, _⟩ := get i y b bs hy hl hb
    exact hs.sep j x b bs o g1 g3 g2

/-- The state at the head of a loop: rows renumbered, forgotten, made of nil slices. The first n rows stay. -/
theorem Wk.ren {P : Program} {X : Ctx} {t t' : List A} {H H' : List Row} (n : Nat) (ids : List Nat) (hX : X.μ.length ≤ n) (hn : ids.take n = List.range n) (hnd : ids.Nodup) (ht : leL ids t t') (htr : hasRL ids.length t') (hnl : n ≤ H.length) (hH : leRows ids ids.length H ids H') : Wk P X ⟨t, H⟩ ⟨t', H'⟩ := by
  intro a w μ hs
  obtain ⟨h1, h2⟩ := hsren hs.hs hnd hH
  refine ⟨rnMu μ ids, ?_, ?_, h1, hs.adv.trans h2, ?_, hs.defers⟩
  · rw [hs.len]; exact (leL_len ht).symm
  · intro i y hy
    obtain ⟨x, hx, hle⟩ := leL_get ht i y hy
    have := rep_ren (hs.rep i x hx) hle (hasRL_get htr i y hy)
    exact this.adv (h2.join X.F0) (List.prefix_refl _)
  · obtain ⟨r, hr⟩ := hs.pre
    have hl : n ≤ ids.length := by
      have := congrArg List.length hn
      simp at this; omega
    have hμ : n ≤ μ.length := by rw [hs.hs.len]; exact hnl
    have e : (rnMu μ ids).take n = μ.take n := by
      apply List.ext_getElem?
      intro i
      simp only [List.getElem?_take]
      split
      · rename_i hi
        have hii : ids[i]? = some i := by
          have := congrArg (fun l => l[i]?) hn
          simp only [List.getElem?_take, hi, if_true] at this
          rw [this, List.getElem?_range hi]
        simp only [rnMu, List.getElem?_map, hii, Option.map_some]
        rw [List.getD_eq_getElem?_getD, List.getElem?_eq_getElem (by omega)]
        rfl
      · rfl
    have hp : X.μ <+: μ.take n := by
      rw [← hr, List.take_append, List.take_of_length_le hX]
      exact List.prefix_append _ _
    rw [← e] at hp
    exact hp.trans (List.take_prefix _ _)
end Go.AL

/- Comparing: numbers, bytes, values, keys, entries; each is an order in which nothing but itself is equal. -/
namespace Go.Sep
set_option linter.unusedVariables false
set_option linter.unusedSimpArgs false

/-- -1, 0, 1 -/
def cmpI (a b : Int) : Int := if a < b then -1 else if b < a then 1 else 0

structure Cmp {α : Type} (c : α → α → Int) : Prop where
  tri : ∀ a b, c a b = -1 ∨ c a b = 0 ∨ c a b = 1
  eq : ∀ a b, c a b = 0 ↔ a = b
  anti : ∀ a b, c b a = - c a b
  trans : ∀ x y z, c x y = -1 → c y z = -1 → c x z = -1

theorem Cmp.int : Cmp cmpI := by
  constructor <;> intros <;> simp only [cmpI] at * <;> grind

def lexBy {α : Type} (c : α → α → Int) : List α → List α → Int
  | [], [] => 0
  | [], _ :: _ => -1
  | _ :: _, [] => 1
  | a :: x, b :: y => if c a b = 0 then lexBy c x y else c a b

theorem Cmp.lex {α : Type} {c : α → α → Int} (h : Cmp c) : Cmp (lexBy c) := by
  constructor
  · intro a
    induction a with
    | nil => intro b; cases b <;> simp [lexBy]
    | cons a x ih => intro b; cases b with
      | nil => simp [lexBy]
      | cons b y => simp only [lexBy]; split; exact ih y; exact h.tri a b
  · intro a
    induction a with
    | nil => intro b; cases b <;> simp [lexBy]
    | cons a x ih => intro b; cases b with
      | nil => simp [lexBy]
      | cons b y =>
        simp only [lexBy]
        have := h.eq a b
        split <;> simp_all
  · intro a
    induction a with
    | nil => intro b; cases b <;> simp [lexBy]
    | cons a x ih => intro b; cases b with
      | nil => simp [lexBy]
      | cons b y =>
        simp only [lexBy]
        have := h.anti a b
        have := ih y
        by_cases e : c a b = 0
        · have e' : c b a = 0 := by omega
          simp [e, e', ih y]
        · have e' : c b a ≠ 0 := by omega
          simp [e, e', h.anti a b]
  · intro x
    induction x with
    | nil => intro y z; cases y <;> cases z <;> simp [lexBy]
    | cons a x ih =>
      intro y z
      cases y with
      | nil => simp [lexBy]
      | cons b y =>
        cases z with
        | nil => simp [lexBy]
        | cons d z =>
          simp only [lexBy]
          intro h1 h2
          have e1 := h.eq a b
          have e2 := h.eq b d
          have e3 := h.eq a d
          have t := h.trans a b d
          by_cases p : c a b = 0
          · have := e1.1 p; subst this
            simp only [p, if_true] at h1
            by_cases q : c a d = 0
            · have := e3.1 q; subst this
              simp only [q, if_true] at h2 ⊢
              exact ih _ _ h1 h2
            · simp only [q, if_false] at h2 ⊢; exact h2
          · simp only [p, if_false] at h1
            by_cases q : c b d = 0
            · have := e2.1 q; subst this
              simp only [p, if_false]; exact h1
            · simp only [q, if_false] at h2
              have := t h1 h2
              simp [this]

/-- one behind the other: what first is not 0 -/
def orI (a b : Int) : Int := if a = 0 then b else a

theorem Cmp.prod {α β : Type} {c : α → α → Int} {d : β → β → Int} (hc : Cmp c) (hd : Cmp d) : Cmp fun (p q : α × β) => orI (c p.1 q.1) (d p.2 q.2) := by
  constructor
  · rintro ⟨a, x⟩ ⟨b, y⟩
    simp only [orI]; split; exact hd.tri x y; exact hc.tri a b
  · rintro ⟨a, x⟩ ⟨b, y⟩
    have := hc.eq a b
    have := hd.eq x y
    simp only [orI, Prod.mk.injEq]
    split <;> simp_all
  · rintro ⟨a, x⟩ ⟨b, y⟩
    have e1 := hc.anti a b
    have e2 := hd.anti x y
    simp only [orI]
    by_cases p : c a b = 0
    · have : c b a = 0 := by omega
      simp [p, this, e2]
    · have : c b a ≠ 0 := by omega
      simp [p, this, e1]
  · rintro ⟨a, x⟩ ⟨b, y⟩ ⟨d', z⟩ h1 h2
    have e1 := hc.eq a b
    have e2 := hc.eq b d'
    have e3 := hc.eq a d'
    have t := hc.trans a b d'
    simp only [orI] at *
    by_cases p : c a b = 0
    · have := e1.1 p; subst this
      simp only [p, if_true] at h1
      by_cases q : c a d' = 0
      · simp only [q, if_true] at h2 ⊢; exact hd.trans x y z h1 h2
      · simp only [q, if_false] at h2 ⊢; exact h2
    · simp only [p, if_false] at h1
      by_cases q : c b d' = 0
      · have := e2.1 q; subst this; simp only [p, if_false]; exact h1
      · simp only [q, if_false] at h2
        have := t h1 h2
        simp [this]

theorem Cmp.map {α β : Type} {c : β → β → Int} (h : Cmp c) (f : α → β) (hf : ∀ a b, f a = f b → a = b) : Cmp fun a b => c (f a) (f b) :=
  ⟨fun _ _ => h.tri _ _, fun a b => ⟨fun e => hf _ _ ((h.eq _ _).1 e), fun e => e ▸ (h.eq _ _).2 rfl⟩, fun _ _ => h.anti _ _, fun _ _ _ => h.trans _ _ _⟩

theorem Cmp.self {α : Type} {c : α → α → Int} (h : Cmp c) (a : α) : c a a = 0 := (h.eq a a).2 rfl
theorem Cmp.lt_irrefl {α : Type} {c : α → α → Int} (h : Cmp c) (a : α) : c a a ≠ -1 := by rw [h.self]; decide

/-- a value, as it lies in memory -/
structure Val where
  kind : Int
  n : Int
  hi : Int
  t : List UInt8
  deriving DecidableEq

def byteI (b : UInt8) : Int := b.toNat
theorem byteI_inj (a b : UInt8) (h : byteI a = byteI b) : a = b := by
  apply UInt8.toNat_inj.1
  unfold byteI at h
  omega

def bcmp : List UInt8 → List UInt8 → Int := lexBy fun a b => cmpI (byteI a) (byteI b)
theorem Cmp.bytes : Cmp bcmp := (Cmp.int.map byteI byteI_inj).lex

def vcmp (a b : Val) : Int := orI (cmpI a.kind b.kind) (orI (cmpI a.n b.n) (orI (cmpI a.hi b.hi) (bcmp a.t b.t)))
theorem Cmp.val : Cmp vcmp :=
  (Cmp.int.prod (Cmp.int.prod (Cmp.int.prod Cmp.bytes))).map (fun v : Val => (v.kind, v.n, v.hi, v.t)) (by
    rintro ⟨a, b, c, d⟩ ⟨a', b', c', d'⟩ h
    simp at h
    simp [h])

def kcmp : List Val → List Val → Int := lexBy vcmp
theorem Cmp.key : Cmp kcmp := Cmp.val.lex

/-- keys with numbers -/
def ecmp (a b : List Val × Int) : Int := orI (kcmp a.1 b.1) (cmpI a.2 b.2)
theorem Cmp.entry : Cmp ecmp := Cmp.key.prod Cmp.int

end Go.Sep

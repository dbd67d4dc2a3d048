/- A scene as plain data, and the whole numbers that are written of it: plain. No condition. -/
import Derived.Test.YtihbiejgebmeaaaRecZ1
import Derived.Test.YtihbiejgebmeaaaSymYD
namespace Go.Proofs.Ytihbiejgebmeaaa
open Go.RowKit
set_option maxRecDepth 100000
/-- What a scene's writer makes of whole numbers. -/
def wZ (zs : List Int) : List (BitVec 8) := putL (sgL zs)
theorem wZ_app (a b : List Int) : wZ (a ++ b) = wZ a ++ wZ b := by simp [wZ, putL, sgL]
theorem wZ_length (zs : List Int) : (wZ zs).length = 8 * zs.length := by rw [wZ, putL_length, sgL, List.length_map]
theorem wZ_nil : wZ [] = [] := rfl
def pxL (ps : List P3) : List Value := ps.flatMap fun p => p.c.toList
def pxZ (ps : List P3) : List Int := ps.flatMap P3.l
structure TriR where
  p0 : P3
  p1 : P3
  p2 : P3
  a0 : Int
  b0 : Int
  a1 : Int
  b1 : Int
  a2 : Int
  b2 : Int
  mat : Int
  tex : Int
  obj : Int
  mask : BitVec 8
def TriR.c (t : TriR) : List Value := (t.p0.l ++ t.p1.l ++ t.p2.l ++ [t.a0, t.b0, t.a1, t.b1, t.a2, t.b2, t.mat, t.tex, t.obj]).map (.int .i64) ++ [.int .u8 (bvi t.mask)]
def TriR.z (t : TriR) : List Int := t.p0.l ++ t.p1.l ++ t.p2.l ++ [t.a0, t.b0, t.a1, t.b1, t.a2, t.b2, t.mat, t.tex, t.obj, (t.mask.toNat : Int)]
structure MatR where
  kind : Int
  col : P3
  rough : Int
def MatR.c (m : MatR) : List Value := ([m.kind] ++ m.col.l ++ [m.rough]).map (.int .i64)
def MatR.z (m : MatR) : List Int := [m.kind] ++ m.col.l ++ [m.rough]
structure TexR where
  side : Int
  sl : Value
  px : List P3
def TexR.c (t : TexR) : List Value := [.int .i64 t.side, t.sl]
def TexR.z (t : TexR) : List Int := [t.side, (t.px.length : Int)] ++ pxZ t.px
structure LitR where
  kind : Int
  col : P3
  pos : P3
  u : P3
  v : P3
def LitR.c (l : LitR) : List Value := ([l.kind] ++ l.col.l ++ l.pos.l ++ l.u.l ++ l.v.l).map (.int .i64)
def LitR.z (l : LitR) : List Int := [l.kind] ++ l.col.l ++ l.pos.l ++ l.u.l ++ l.v.l
structure ScnR where
  tris : List TriR
  mats : List MatR
  texs : List TexR
  lits : List LitR
  ids : List (BitVec 64)
  labs : List (BitVec 32)
  label : BitVec 32
  frm : BitVec 32
  til : BitVec 32
/-- A scene's slices. -/
structure ScnV where
  t : Value
  m : Value
  x : Value
  l : Value
  i : Value
  b : Value
def scnA (s : ScnR) (v : ScnV) : Array Value := #[v.t, v.m, v.x, v.l, v.i, v.b, .int .u32 (bvi s.label), .int .u32 (bvi s.frm), .int .u32 (bvi s.til)]
def ScnR.z (s : ScnR) : List Int := [(s.tris.length : Int)] ++ s.tris.flatMap TriR.z ++ [(s.mats.length : Int)] ++ s.mats.flatMap MatR.z ++ [(s.texs.length : Int)] ++ s.texs.flatMap TexR.z ++ [(s.lits.length : Int)] ++ s.lits.flatMap LitR.z ++
  [(s.ids.length : Int)] ++ s.ids.map BitVec.toInt ++ [(s.labs.length : Int)] ++ s.labs.map (fun x => (x.toNat : Int)) ++ [(s.label.toNat : Int), (s.frm.toNat : Int), (s.til.toNat : Int)]
/-- What may be asked of a scene: numbers that are, and not too many. -/
structure ScnR.ok (s : ScnR) : Prop where
  tris : ∀ t ∈ s.tris, ∀ z ∈ t.z, okI z
  mats : ∀ t ∈ s.mats, ∀ z ∈ t.z, okI z
  texs : ∀ t ∈ s.texs, okI t.side ∧ t.px.length ≤ 260 ∧ ∀ p ∈ t.px, ∀ z ∈ p.l, okI z
  lits : ∀ t ∈ s.lits, ∀ z ∈ t.z, okI z
  ltris : s.tris.length ≤ 20
  lmats : s.mats.length ≤ 8
  ltexs : s.texs.length ≤ 4
  llits : s.lits.length ≤ 5
  lids : s.ids.length ≤ 20
  llabs : s.labs.length ≤ 20
/-- A scene that can be read. -/
structure ScnRd (w : World) (s : ScnR) (v : ScnV) : Prop where
  t : RdV w 19 v.t s.tris.length (s.tris.flatMap TriR.c)
  m : RdV w 5 v.m s.mats.length (s.mats.flatMap MatR.c)
  x : RdV w 2 v.x s.texs.length (s.texs.flatMap TexR.c)
  px : ∀ t ∈ s.texs, RdV w 3 t.sl t.px.length (pxL t.px)
  l : RdV w 13 v.l s.lits.length (s.lits.flatMap LitR.c)
  i : RdV w 1 v.i s.ids.length (valsL .u64 s.ids)
  b : RdV w 1 v.b s.labs.length (valsL .u32 s.labs)
theorem fm_take {α β : Type} (f : α → List β) (l : List α) (j : Nat) (x : α) (h : l[j]? = some x) : (l.take (j + 1)).flatMap f = (l.take j).flatMap f ++ f x := by
  rw [List.take_add_one, h, List.flatMap_append]
  simp
theorem fm_len {α β : Type} (f : α → List β) (l : List α) (k : Nat) (h : ∀ x ∈ l, (f x).length ≤ k) (j : Nat) : ((l.take j).flatMap f).length ≤ k * l.length := by
  have h1 : ∀ m : List α, (∀ x ∈ m, (f x).length ≤ k) → (m.flatMap f).length ≤ k * m.length := by
    intro m hm
    induction m with
    | nil => simp
    | cons x m ih =>
      rw [List.flatMap_cons, List.length_append, List.length_cons]
      have := ih fun y hy => hm y (by simp [hy])
      have := hm x (by simp)
      rw [Nat.mul_add, Nat.mul_one]
      omega
  have := h1 (l.take j) fun x hx => h x (List.mem_of_mem_take hx)
  refine Nat.le_trans this (Nat.mul_le_mul_left _ ?_)
  rw [List.length_take]
  omega
theorem TriR.z_len (t : TriR) : t.z.length = 19 := rfl
theorem MatR.z_len (t : MatR) : t.z.length = 5 := rfl
theorem LitR.z_len (t : LitR) : t.z.length = 13 := rfl
theorem pxZ_len (ps : List P3) : (pxZ ps).length = 3 * ps.length := by
  unfold pxZ
  induction ps with
  | nil => rfl
  | cons p ps ih => rw [List.flatMap_cons, List.length_append, ih, List.length_cons]; simp [P3.l]; omega
theorem toInt_ok (x : BitVec 64) : okI x.toInt := by
  have h1 : x.toInt < 2 ^ (64 - 1) := x.toInt_lt
  have h2 : -2 ^ (64 - 1) ≤ x.toInt := x.le_toInt
  rw [show (2 : Int) ^ (64 - 1) = 9223372036854775808 from rfl] at h1 h2
  exact ⟨h2, h1⟩
theorem toNat_ok (x : BitVec 32) : okI (x.toNat : Int) := by
  have := x.isLt
  constructor <;> omega
theorem toNat8_ok (x : BitVec 8) : okI (x.toNat : Int) := by
  have := x.isLt
  constructor <;> omega
end Go.Proofs.Ytihbiejgebmeaaa

/- Strings; conversions of slices; rows of a few bytes. No condition. A slice that was built is an own one. No condition. Two rows handed back; a slice and a slice of slices handed over. No condition. A string as new bytes. No condition. A slice of its own and a value, handed back together; the lesser of two bytes. No condition. A row out of a slice. No condition. -/
import Derived.Test.YtlhedoodbadmgaaSymHK
import Derived.Laws.Strings2
import Derived.Laws.Concat
import Derived.Laws.IdiomStrings
namespace Go.Proofs.Ytlhedoodbadmgaa
open Go.RowKit
set_option maxRecDepth 100000
variable {C : Ctx} {ops : Array Oper} {S : St} {o : Oper}
theorem strL_size (l : List (BitVec 8)) : (strL l).size = l.length := by simp [strL, ByteArray.size]
section
variable {x y : Operand} {t T ty yt : TypeId} {s s' : ByteArray} {l l' : List (BitVec 8)}
end
theorem valsL_setz {k : IntKind} {m : Nat} {l : List (BitVec m)} {i : Nat} {z : Int} (hz : (decide (0 ≤ z) && decide (z < 2 ^ m)) = true) : (valsL k l).set i (.int k z) = valsL k (l.set i (BitVec.ofInt m z)) := by
  rw [← valsL_set, ← litb m z hz]
/-! ### a few bytes in a block -/
def LitL (k : IntKind) {m : Nat} : List SV → List (BitVec m) → Prop
  | [], [] => True
  | v :: vs, x :: l => (∀ e, v.den e = .int k (bvi x)) ∧ LitL k vs l
  | _, _ => False
theorem litl_nil {k : IntKind} {m : Nat} : LitL k ([] : List SV) ([] : List (BitVec m)) := trivial
theorem litl_bv {k : IntKind} {m : Nat} {x : BitVec m} {vs : List SV} {l : List (BitVec m)} (h : LitL k vs l) : LitL k (SV.c (.int k (bvi x)) :: vs) (x :: l) := ⟨fun _ => rfl, h⟩
theorem litl_z {k : IntKind} {m : Nat} {z : Int} {vs : List SV} {l : List (BitVec m)} (hz : (decide (0 ≤ z) && decide (z < 2 ^ m)) = true) (h : LitL k vs l) : LitL k (SV.c (.int k z) :: vs) (BitVec.ofInt m z :: l) := ⟨fun _ => by rw [← litb m z hz]; rfl, h⟩
theorem litl_map {k : IntKind} {m : Nat} (e : Env) : ∀ {vs : List SV} {l : List (BitVec m)}, LitL k vs l → vs.map (·.den e) = valsL k l
  | [], [], _ => rfl
  | v :: vs, x :: l, h => by
    have := litl_map e h.2
    simp only [List.map_cons, h.1 e, this]
    rfl
theorem rdn_lit {n : Nat} {T : TypeId} {wr : Bool} {k : IntKind} {m : Nat} {vs : List SV} {l : List (BitVec m)} {len cap : Nat} (hr : S.res n = some (.blk n T (.l vs) wr)) (hl : LitL k vs l) (hc : l.length = len) : RdN C S [n] 1 (.s n 0 len cap) len (valsL k l) := by
  subst hc
  intro S' e a w h hS
  obtain ⟨fr, hb, _⟩ := res_blk hS ((h n (by simp)).trans hr)
  refine ⟨by rw [valsL_length]; omega, some ⟨(e n).b, 0, none⟩, cap, rfl, .inr ⟨(e n).b, 0, rfl, fun j u hu => ?_⟩⟩
  rw [cell_of_row w _ _ _ _ _ hb, Nat.zero_add]
  have := litl_map e hl
  simp only [SA.l, this]
  simpa using hu
theorem fsq_lit {n : Nat} {T : TypeId} {wr : Bool} {vs : List SV} {l : List (BitVec 8)} {len cap : Nat} (hr : S.res n = some (.blk n T (.l vs) wr)) (hl : LitL .u8 vs l) (hc : l.length = len) (hcap : len ≤ cap) : FSQ C S [n] (.s n 0 len cap) l := fun S' e a w hq hS => by
  subst hc
  exact ⟨rdn_lit hr hl rfl S' e a w hq hS, _, _, rfl, hcap⟩
/-! ### a slice, converted to its own type -/
theorem Holds.freeze {e : Env} {a : Act} {w w' : World} (hS : Holds C S e a w) {n : Nat} {T : TypeId} {A : SA} (hr : S.res n = some (.blk n T A)) (hos : w'.os = w.os) (htape : w'.tape = w.tape) (hout : w'.output = w.output) (hsz : w'.heap.size = w.heap.size)
    (hn : ∃ fr, w'.heap[(e n).b]? = some (.cells (A.den e) T fr)) (hoth : ∀ k, k ≠ (e n).b → w'.heap[k]? = w.heap[k]?) : Holds C ⟨S.t, (n, some (.blk n T A false)) :: S.h⟩ e a w' := by
  have hm : ∀ b, b = (e n).b → C.mine b := fun b hb => hS.mine n _ hr rfl b hb
  refine ⟨hS.defers, hS.size, hS.tmp, fun m r h => ?_, fun m r h hw b hb => ?_, fun m k r r' h h' hne hw b hb => ?_, ⟨hos.trans hS.frame.os, htape.trans hS.frame.tape, hout.trans hS.frame.output, by rw [hsz]; exact hS.frame.size, fun k hk hkm => ?_⟩⟩
  · rw [St.res_cons] at h
    split at h
    · cases h
      obtain ⟨fr, hn⟩ := hn
      exact ⟨fr, hn, fun h => by cases h⟩
    · rename_i hne
      refine r.loc e w w' (fun b hb => hoth b fun he => ?_) (hS.res m r h)
      exact hS.sep n m _ r hr h hne rfl (e n).b rfl (he ▸ hb)
  · rw [St.res_cons] at h
    split at h
    · cases h; exact hm b hb
    · exact hS.mine m r h hw b hb
  · rw [St.res_cons] at h h'
    split at h
    · rename_i h1; cases h; cases hw
    · split at h'
      · rename_i h2; cases h'; subst h2
        exact hS.sep m n r _ h hr hne hw b hb
      · exact hS.sep m k r r' h h' hne hw b hb
  · rw [hoth k ?_]
    · exact hS.frame.block k hk hkm
    · intro he
      rcases hm k he with h | h
      · exact absurd hk (by omega)
      · exact hkm h
theorem run_markStringish (w : World) (b off : Nat) {A : Array Value} {T : TypeId} {fr : Nat × Nat} (h : w.heap[b]? = some (.cells A T fr)) :
    ∃ w', (markStringish ⟨b, off, none⟩).run Try.prog w = .ok () w' ∧ w'.os = w.os ∧ w'.tape = w.tape ∧ w'.output = w.output ∧ w'.heap.size = w.heap.size ∧ (∃ fr, w'.heap[b]? = some (.cells A T fr)) ∧ ∀ k, k ≠ b → w'.heap[k]? = w.heap[k]? := by
  refine ⟨w.freeze ⟨b, A.size, none⟩ 1, ?_, ?_, ?_, ?_, ?_, ?_, ?_⟩
  · simp [markStringish, World.shape?, h]
  · simp [World.freeze]
  · simp [World.freeze]
  · simp [World.freeze]
  · simp [World.freeze]
  · refine ⟨if fr.1 == fr.2 then (A.size, A.size + 1) else (min fr.1 A.size, max fr.2 (A.size + 1)), ?_⟩
    simp [World.freeze, Array.getElem?_modify, h]
  · intro k hk
    simp [World.freeze, Array.getElem?_modify, Ne.symm hk]
theorem op_convSelf {src e0 : TypeId} {x : Operand} {n off len cap : Nat} {T : TypeId} {A : SA} (ho : o.op = .convert src src x) (hg : o.guard = none) (hd : dstB o.dst C.nt = true) (hx : S.ev x = some (.s n off len cap)) (hs' : tabLook undT src = some (.slice e0)) (he' : tabLook undT e0 = some (.int .u8)) (hr : S.res n = some (.blk n T A)) :
    OpG C Try.prog ops o S ⟨opT x, n :: A.sup, dw o.dst (.s n off len cap), [(n, some (.blk n T A false))], []⟩ := by
  refine opG_mk hg fun S' h1 h2 h3 e a w hS => ?_
  have hev : a.eval x = .slice (some ⟨(e n).b, off, none⟩) len cap := hS.ev ((ev_like h1 fun _ h => h).trans hx)
  have hr' := (h2 n (by simp)).trans hr
  obtain ⟨fr, hb, hfr⟩ := res_blk hS hr'
  have us := tabAll_look undT_ok hs'
  have ue := tabAll_look undT_ok he'
  obtain ⟨w', hrun, g1, g2, g3, g4, g5, g6⟩ := run_markStringish w (e n).b off hb
  refine wp_value (v := .slice (some ⟨(e n).b, off, none⟩) len cap) (w' := w') ?_ ⟨e, (hS.freeze hr' g1 g2 g3 g4 g5 g6).put hd (.s n off len cap)⟩
  simp [execOp, ho, hev, convert, run_underlying us, run_underlying ue, hrun]
end Go.Proofs.Ytlhedoodbadmgaa
namespace Go.Proofs.Ytlhedoodbadmgaa
open Go.RowKit
set_option maxRecDepth 100000
variable {C : Ctx} {ops : Array Oper} {S : St} {o : Oper}
/-! ### guards whose operation did not run -/
section
variable {P : Program} {dst : Option Tmp} {op : Op} {ty : TypeId} {pos : String} {after : Array Edge} {j : Nat} {want : Bool} {g d : Nat} {l : List Oper} {t : List (Nat × SV)} {h : List (Nat × Option Res)}
theorem opG_noU (hj : (ops[j]?).bind (·.dst) = some g) (hv : S.tmp g = some (.c undef)) (hd : dstB dst C.nt = true) : OpG C P ops ⟨dst, op, ty, pos, after, some (j, want)⟩ S ⟨[g], [], dw dst (.c undef), [], []⟩ := by
  intro S' h1 h2 h3 e a w hS
  have hy : yielded ops a.tmps j = none := by
    have := hS.tmp g _ ((h1 g (by simp)).trans hv)
    unfold yielded
    rw [hj]
    simp only [Option.bind_some, this]
    rfl
  rw [if_neg (by simp [Region.wanted, hy])]
  exact ⟨e, hS.put hd (.c undef)⟩
theorem walk1_noU {K : St → Prop} (hj : (ops[j]?).bind (·.dst) = some g) (hv : look t g = some (.c undef)) (hd : dstB (some d) C.nt = true) (hK : Walk1 C P ops l ⟨(d, .c undef) :: t, h⟩ K) : Walk1 C P ops (⟨some d, op, ty, pos, after, some (j, want)⟩ :: l) ⟨t, h⟩ K :=
  walk1_t (opG_noU (S := ⟨t, h⟩) hj hv hd) hK
end
end Go.Proofs.Ytlhedoodbadmgaa
namespace Go.Proofs.Ytlhedoodbadmgaa
open Go.RowKit
set_option maxRecDepth 100000
variable {C : Ctx} {ops : Array Oper} {S : St} {o : Oper}
theorem op_ext0 {x : Operand} {a b : Value} (ho : o.op = .extract x 0) (hg : o.guard = none) (hd : dstB o.dst C.nt = true) (hx : S.ev x = some (.c (.tuple #[a, b]))) : OpG C Try.prog ops o S ⟨opT x, [], dw o.dst (.c a), [], []⟩ := op_extractC ho hg hd hx rfl
theorem op_ext1 {x : Operand} {a b : Value} (ho : o.op = .extract x 1) (hg : o.guard = none) (hd : dstB o.dst C.nt = true) (hx : S.ev x = some (.c (.tuple #[a, b]))) : OpG C Try.prog ops o S ⟨opT x, [], dw o.dst (.c b), [], []⟩ := op_extractC ho hg hd hx rfl
end Go.Proofs.Ytlhedoodbadmgaa
namespace Go.Proofs.Ytlhedoodbadmgaa
open Go.RowKit
set_option maxRecDepth 100000
variable {C : Ctx} {ops : Array Oper} {S : St} {o : Oper}
/-- What lies behind the bytes. -/
def SA.zt (n len : Nat) : SA := ⟨3, fun e => Array.replicate ((e n).c - len) (.int .u8 0), [n], fun e e' h => by simp only [h n (by simp)]⟩
/-- A slice of a block, whose room nobody knows. -/
def SV.sc (n len : Nat) : SV := ⟨9, fun e => .slice (some ⟨(e n).b, 0, none⟩) len (e n).c, [n], fun e e' h => by simp only [h n (by simp)]⟩
theorem Holds.newFz {e : Env} {a : Act} {w w' : World} (hS : Holds C S e a w) {n cap : Nat} (hf : S.fresh n) (T : TypeId) (A : SA) {cells : Array Value} {fr : Nat × Nat} (hA : A.den (e.set n ⟨w.heap.size, cap, undef⟩) = cells) (hb : Below w.heap.size w w') (hB : w'.heap[w.heap.size]? = some (.cells cells T fr)) :
    Holds C ⟨S.t, (n, some (.blk n T A false)) :: S.h⟩ (e.set n ⟨w.heap.size, cap, undef⟩) a w' := by
  have h1 := (hS.world hb).rename hf ⟨w.heap.size, cap, undef⟩
  have hfoot : ∀ m r, S.res m = some r → ¬ r.foot (e.set n ⟨w.heap.size, cap, undef⟩) w.heap.size := by
    intro m r hr hfo
    have h2 := r.ind e (e.set n ⟨w.heap.size, cap, undef⟩) fun k hk => Env.set_ne e _ (fun he => hf.2 m r hr (he ▸ hk))
    rw [h2.1] at hfo
    have := r.lt e w _ (hS.res m r hr) hfo
    omega
  refine ⟨h1.defers, h1.size, h1.tmp, fun m r hr => ?_, fun m r hr hw x hx => ?_, fun m k r r' hr hr' hne hw x hx => ?_, h1.frame⟩
  · rw [St.res_cons] at hr
    split at hr
    · cases hr
      refine ⟨fr, ?_, fun h => by cases h⟩
      rw [Env.set_self, hA]; exact hB
    · exact h1.res m r hr
  · rw [St.res_cons] at hr
    split at hr
    · cases hr; cases hw
    · exact h1.mine m r hr hw x hx
  · rw [St.res_cons] at hr hr'
    split at hr
    · cases hr; cases hw
    · split at hr'
      · cases hr'
        intro hb2
        have hbb : x = w.heap.size := by rw [show x = ((e.set n ⟨w.heap.size, cap, undef⟩) n).b from hb2, Env.set_self]
        rw [hbb] at hx
        exact hfoot m r hr hx
      · exact h1.sep m k r r' hr hr' hne hw x hx
theorem bytesRow_strL (l : List (BitVec 8)) (cap : Nat) : bytesRow (strL l) cap = vals .u8 l ++ Array.replicate (cap - l.length) (.int .u8 0) := by
  unfold bytesRow
  rw [strL_size]
  congr 1
  simp only [strL, vals, valsL, List.map_toArray, List.map_map]
  congr 1
theorem op_cvtSB {src dst e0 : TypeId} {x : Operand} {n : Nat} {s : ByteArray} {l : List (BitVec 8)} (ho : o.op = .convert src dst x) (hdn : o.dst = some n) (hg : o.guard = none) (hd : dstB o.dst C.nt = true) (hx : S.ev x = some (.c (.string s))) (hs' : tabLook undT src = some .string) (hd' : tabLook undT dst = some (.slice e0)) (he' : tabLook undT e0 = some (.int .u8)) (hs : s = strL l := by first | with_reducible rfl | assumption) :
    OpG C Try.prog ops o S ⟨opT x, [], [(n, .sc n l.length)], [(n, some (.blk n e0 ((SA.c (vals .u8 l)).app (SA.zt n l.length)) false))], [n]⟩ := by
  subst hs
  refine opG_mk hg fun S' h1 h2 h3 e a w hS => ?_
  have hev : a.eval x = .string (strL l) := hS.ev ((ev_like h1 fun _ h => h).trans hx)
  have us := tabAll_look undT_ok hs'
  have ud := tabAll_look undT_ok hd'
  have ue := tabAll_look undT_ok he'
  have hrun := run_bytes_of_string (P := Try.prog) w src dst e0 (strL l) us ud ue
  generalize hcap : grownCap w (strL l).size 0 e0 = cap at hrun
  rw [strL_size, bytesRow_strL] at hrun
  generalize hfr : ((vals .u8 l ++ Array.replicate (cap - l.length) (Value.int .u8 0)).size, (vals .u8 l ++ Array.replicate (cap - l.length) (Value.int .u8 0)).size + 1) = fr at hrun
  have hb : Below w.heap.size w (w.drew.alloc (.cells (vals .u8 l ++ Array.replicate (cap - l.length) (.int .u8 0)) e0 fr)) := ((Below.refl _ _).drew).alloc (Nat.le_refl _) _
  have hH := hS.newFz (n := n) (cap := cap) (fr := fr) (h3 n (by simp)) e0 ((SA.c (vals .u8 l)).app (SA.zt n l.length)) (by simp [SA.app, SA.c, SA.zt, Env.set_self]) hb (heap_alloc_new w.drew _)
  refine wp_value (v := .slice (some ⟨w.heap.size, 0, none⟩) l.length cap) (w' := w.drew.alloc (.cells (vals .u8 l ++ Array.replicate (cap - l.length) (.int .u8 0)) e0 fr)) ?_ ⟨e.set n ⟨w.heap.size, cap, undef⟩, ?_⟩
  · simp [execOp, ho, hev, hrun]
  · rw [hdn]
    have hd2 : dstB (some n) C.nt = true := by rw [← hdn]; exact hd
    have := hH.put hd2 (.sc n l.length)
    simp only [SV.sc, Env.set_self] at this
    exact this
end Go.Proofs.Ytlhedoodbadmgaa
namespace Go.Proofs.Ytlhedoodbadmgaa
open Go.RowKit
set_option maxRecDepth 100000
/-- Handed back: a new slice of these cells, and a value. -/
def RetOT (w : World) (T size len : Nat) (xs : List Value) (u : Value) : Ending → World → Prop := fun r w' => ∃ v, r = .returned (.tuple #[v, u]) ∧ w'.ownsRow w.heap.size T size v len xs ∧ Below w.heap.size w w'
section
variable {C : Ctx} {ops : Array Oper} {S : St} {o : Oper}
theorem fin_ownT {n nt T size len : Nat} {xs : List Value} {w0 : World} {u : Value} (hr : S.res n = some (.own n T size len xs)) : ∀ e a w, Holds ⟨nt, w0, []⟩ S e a w → RetOT w0 T size len xs u (.returned ((SV.tup [.v n, .c u]).den e)) w := fun e a w hS => by
  obtain ⟨v, h1, h2, h3⟩ := fin_own hr e a w hS
  have hv : v = (e n).v := by cases h1; rfl
  subst hv
  exact ⟨(e n).v, rfl, h2, h3⟩
def CallOT (C : Ctx) (S : St) (rb : List Nat) (j : FuncId) (vs : List SV) (T size len : Nat) (xs : List Value) (u : Value) : Prop := ∀ (S' : St) e a w, Holds C S' e a w → (∀ q ∈ rb, S'.res q = S.res q) → Calls Try.prog j (vs.map (·.den e)).toArray w (RetOT w T size len xs u)
theorem callOT_0 {j : FuncId} {vs : List SV} {T size len : Nat} {xs : List Value} {u : Value} (h : ∀ (e : Env) w, Calls Try.prog j (vs.map (·.den e)).toArray w (RetOT w T size len xs u)) : CallOT C S [] j vs T size len xs u := fun _ e _ w _ _ => h e w
theorem op_callOT {f : FuncId} {xs : Array Operand} {ats : Array TypeId} {vs : List SV} {rb : List Nat} {j n T size len : Nat} {ys : List Value} {u : Value} (ho : o.op = .call { callee := .value (.func f), args := xs, argTypes := ats }) (hdn : o.dst = some n) (hg : o.guard = none) (hd : dstB o.dst C.nt = true) (hxs : EvS S xs.toList vs) (hc' : tabLook calT f = some j) (hcon : CallOT C S rb j vs T size len ys u) :
    OpG C Try.prog ops o S ⟨xs.toList.flatMap opT, rb, [(n, .tup [.v n, .c u])], [(n, some (.own n T size len ys))], [n]⟩ := by
  refine opG_mk hg fun S' h1 h2 h3 e a w hS => ?_
  unfold Oper.wp
  rw [call_hop ho hxs hc' h1 hS]
  refine Calls.mono (hcon S' e a w hS h2) ?_
  rintro r w' ⟨v, rfl, hown, hb⟩
  have := (hS.ownNew (n := n) (h3 n (by simp)) hb hown).put hd (.tup [.v n, .c u])
  have hden : (SV.tup [.v n, .c u]).den (e.set n ⟨0, 0, v⟩) = .tuple #[v, u] := by
    show Value.tuple ([SV.v n, SV.c u].map (·.den (e.set n ⟨0, 0, v⟩))).toArray = _
    simp only [List.map_cons, List.map_nil, SV.v, SV.c, Env.set_self]
  rw [hden] at this
  rw [hdn] at this ⊢
  exact ⟨_, this⟩
section
variable {l : List Oper} {t : List (Nat × SV)} {h : List (Nat × Option Res)} {d : Nat} {f j : FuncId} {xs : Array Operand} {ats : Array TypeId} {vs : List SV}
theorem walk1_callOT {K : St → Prop} (ho : o.op = .call { callee := .value (.func f), args := xs, argTypes := ats }) (hdn : o.dst = some d) (hg : o.guard = none) (hd : dstB o.dst C.nt = true) (hf : freshB ⟨t, h⟩ d = true) (hxs : EvS ⟨t, h⟩ xs.toList vs) (hc' : tabLook calT f = some j)
    (hK : ∃ rb T size len ys u, CallOT C ⟨t, h⟩ rb j vs T size len ys u ∧ Walk1 C Try.prog ops l ⟨(d, .tup [.v d, .c u]) :: t, (d, some (.own d T size len ys)) :: h⟩ K) : Walk1 C Try.prog ops (o :: l) ⟨t, h⟩ K := by
  obtain ⟨rb, T, size, len, ys, u, h1, h2⟩ := hK
  exact walk1_n (op_callOT (C := C) (ops := ops) ho hdn hg hd hxs hc' h1) hf h2
theorem walk_callOT {x : List Nat} {acc : List OS} {K : St → List OS → Prop} (ho : o.op = .call { callee := .value (.func f), args := xs, argTypes := ats }) (hdn : o.dst = some d) (hg : o.guard = none) (hd : dstB o.dst C.nt = true) (hf : freshB ⟨t, h⟩ d = true) (hxs : EvS ⟨t, h⟩ xs.toList vs) (hc' : tabLook calT f = some j)
    (hK : ∃ rb T size len ys u, CallOT C ⟨t, h⟩ rb j vs T size len ys u ∧ WalkTo C Try.prog ops [] l ⟨(d, .tup [.v d, .c u]) :: t, (d, some (.own d T size len ys)) :: h⟩ (⟨x ++ xs.toList.flatMap opT, rb, [(d, .tup [.v d, .c u])], [(d, some (.own d T size len ys))], [d]⟩ :: acc) K) : WalkTo C Try.prog ops x (o :: l) ⟨t, h⟩ acc K := by
  obtain ⟨rb, T, size, len, ys, u, h1, h2⟩ := hK
  exact walk_n (op_callOT (C := C) (ops := ops) ho hdn hg hd hxs hc' h1) hf h2
end
section
variable {dst : Option Tmp} {x y : Operand} {ats : Array TypeId} {ty : TypeId} {pos : String} {after : Array Edge} {k : IntKind} {m : Nat} {a b : BitVec m}
end
end
end Go.Proofs.Ytlhedoodbadmgaa
namespace Go.Proofs.Ytlhedoodbadmgaa
open Go.RowKit
set_option maxRecDepth 100000
variable {C : Ctx} {ops : Array Oper} {S : St} {o : Oper}
/-- A whole row, read out of an own slice. -/
theorem op_loadsV {ty : TypeId} {x : Operand} {n off len sz m : Nat} {T0 : TypeId} {xs : List Value} {B : List Value} {d : TypeDesc} (ho : o.op = .load ty x) (hg : o.guard = none) (hd : dstB o.dst C.nt = true) (hx : S.ev x = some (.vp n off)) (hr : S.res n = some (.own n T0 sz len xs)) (hu' : tabLook undT ty = some d) (hda : d.isRow = true) (hi' : tabLook sizT ty = some m) (hm : 0 < m) (hb : off + m ≤ xs.length) (hB : (xs.drop off).take m = B) :
    OpG C Try.prog ops o S ⟨opT x, [n], dw o.dst (.c (.agg B.toArray)), [], []⟩ := by
  have hu := tabAll_look undT_ok hu'
  have hi := tabAll_look sizT_ok hi'
  have hBl : B.length = m := by rw [← hB, List.length_take, List.length_drop]; omega
  have := op_value (C := C) (P := Try.prog) (ops := ops) (S := S) hg hd [x] [n] (.c (.agg B.toArray)) fun S' e a w hS h1 h2 => by
    have hev : a.eval x = (SV.vp n off).den e := hS.ev ((h1 x (by simp)).trans hx)
    have hok : w.ownsRow 0 T0 sz (e n).v len xs := hS.res n _ ((h2 n (by simp)).trans hr)
    rcases hok.2 with ⟨h3, h4⟩ | ⟨g, cap, cur, h4, _⟩
    · have h5 := hok.1
      rw [h4, Nat.zero_mul] at h5
      omega
    · have hden : (SV.vp n off).den e = .pointer (some ⟨g, off, none⟩) := by simp only [SV.vp, h4]
      have hra : w.rangeAt g off B := fun j u hj => by
        have hjl : j < m := by have := (List.getElem?_eq_some_iff.1 hj).1; omega
        rw [← hB, List.getElem?_take, if_pos hjl, List.getElem?_drop] at hj
        have := hok.cells (g := g) (by rw [h4]; rfl) (off + j) u hj
        rwa [add_place, Nat.zero_add] at this
      have hl := run_loadVar_mid (P := Try.prog) w g off ty B d hra hu hda (by rw [hi, hBl])
      rw [hden] at hev
      simp [execOp, ho, hev, Instr.loadAt, Instr.sureAddr, Sem.run_bind, hl, SV.c]
  simpa using this
end Go.Proofs.Ytlhedoodbadmgaa

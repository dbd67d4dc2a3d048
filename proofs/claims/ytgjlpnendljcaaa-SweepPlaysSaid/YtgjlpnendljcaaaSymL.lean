/- Strings; conversions of slices; rows of a few bytes. No condition. -/
import Derived.Test.YtgjlpnendljcaaaSymK
import Derived.Laws.Strings2
import Derived.Laws.Concat
import Derived.Laws.IdiomStrings
namespace Go.Proofs.Ytgjlpnendljcaaa
open Go.RowKit
set_option maxRecDepth 100000
variable {C : Ctx} {ops : Array Oper} {S : St} {o : Oper}
theorem strL_size (l : List (BitVec 8)) : (strL l).size = l.length := by simp [strL, ByteArray.size]
theorem strL_append (l l' : List (BitVec 8)) : strL l ++ strL l' = strL (l ++ l') := by
  apply ByteArray.ext
  simp [strL, ByteArray.data_append]
theorem strL_cut (l : List (BitVec 8)) (a b : Nat) : (strL l).extract a b = strL ((l.drop a).take (b - a)) := by
  unfold strL
  rw [ByteArray.extract_mk, List.map_take, List.map_drop]
theorem strL_get (l : List (BitVec 8)) (i : Nat) (h : i < (strL l).size) : (((strL l)[i]'h).toNat : Int) = bvi (gt l i) := by
  have hl : i < l.length := by rw [strL_size] at h; exact h
  rw [gt_lt l i hl]
  show (((strL l).data[i]'h).toNat : Int) = bvi l[i]
  simp [strL, bvi]
section
variable {x y : Operand} {t T ty yt : TypeId} {s s' : ByteArray} {l l' : List (BitVec 8)}
theorem op_idxSt {i : Nat} (ho : o.op = .index t x y) (hg : o.guard = none) (hd : dstB o.dst C.nt = true) (hx : S.ev x = some (.c (.string s))) (hy : EvK S y i) (hu' : tabLook undT t = some .string) (hs : s = strL l := by first | with_reducible rfl | assumption) (hi : i < l.length := by first | omega | (simp only [List.length_cons, List.length_nil]; omega)) :
    OpG C Try.prog ops o S ⟨opT x ++ opT y, [], dw o.dst (.c (.int .u8 (bvi (gt l i)))), [], []⟩ := by
  subst hs
  obtain ⟨k, hy⟩ := hy
  refine op_two (v := .c (.int .u8 (bvi (gt l i)))) hg hd hx hy fun e ρ w h1 h2 => ?_
  have h1' : ρ x = .string (strL l) := h1
  have h2' : ρ y = .int k ((i : Nat) : Int) := h2
  have hu := tabAll_look undT_ok hu'
  have hsz := strL_size l
  have hlt : (0 : Int) ≤ (i : Int) ∧ (i : Int) < ((strL l).size : Int) := by omega
  simp only [execOp, ho, h1', h2', Sem.run_bind, run_index_string w t _ k _ hu, dif_pos hlt, Result.andThen_ok, Sem.run_pure]
  rw [show (((strL l)[(i : Int).toNat]'(by omega)).toNat : Int) = bvi (gt l i) from strL_get l i (by omega)]
  rfl
theorem op_lenSt {dst : Option Tmp} {pos : String} {after : Array Edge} (hd : dstB dst C.nt = true) (hx : S.ev x = some (.c (.string s))) (hu' : tabLook undT t = some .string) (hs : s = strL l := by first | with_reducible rfl | assumption) :
    OpG C Try.prog ops ⟨dst, .call { callee := .builtin .len, args := #[x], argTypes := #[t] }, ty, pos, after, none⟩ S ⟨opT x, [], dw dst (.c (.int .i64 ((l.length : Nat) : Int))), [], []⟩ := by
  subst hs
  refine op_one (v := .c (.int .i64 ((l.length : Nat) : Int))) rfl hd hx fun e ρ w h1 => ?_
  have h1' : ρ x = .string (strL l) := h1
  have hu := tabAll_look undT_ok hu'
  simp only [execOp, resolve, invoke, builtin, Sem.run_bind, Sem.run_pure, Result.andThen_ok, List.map_toArray, List.map_cons, List.map_nil, h1', run_len_string w t ty _ hu, strL_size]
  rfl
theorem op_addSt (ho : o.op = .binOp .add ty x y yt) (hg : o.guard = none) (hd : dstB o.dst C.nt = true) (hx : S.ev x = some (.c (.string s))) (hy : S.ev y = some (.c (.string s'))) (hs : s = strL l := by first | with_reducible rfl | assumption) (hs' : s' = strL l' := by first | with_reducible rfl | assumption) (hm : l.length + l'.length ≤ 1000000 := by first | omega | (simp; omega)) :
    OpG C Try.prog ops o S ⟨opT x ++ opT y, [], dw o.dst (.c (.string (strL (l ++ l')))), [], []⟩ := by
  subst hs hs'
  refine op_two (v := .c (.string (strL (l ++ l')))) hg hd hx hy fun e ρ w h1 h2 => ?_
  have h1' : ρ x = .string (strL l) := h1
  have h2' : ρ y = .string (strL l') := h2
  have hgd : (eqGuard .add ty x y (.string (strL l)) (.string (strL l'))).run Try.prog w = .ok () w := by
    unfold eqGuard
    rfl
  simp only [execOp, ho, h1', h2', Sem.run_bind, hgd, Result.andThen_ok, binOp_string_add, run_string_add_sum w (strL l) (strL l') (by rw [strL_size, strL_size]; omega), Sem.run_pure, strL_append]
  rfl
theorem op_eqSt (ho : o.op = .binOp .eql ty x y yt) (hg : o.guard = none) (hd : dstB o.dst C.nt = true) (hx : S.ev x = some (.c (.string s))) (hy : S.ev y = some (.c (.string s'))) (hs : s = strL l := by first | with_reducible rfl | assumption) (hs' : s' = strL l' := by first | with_reducible rfl | assumption) : OpG C Try.prog ops o S ⟨opT x ++ opT y, [], dw o.dst (.c (.bool (l == l'))), [], []⟩ := by
  subst hs hs'
  exact op_eqS ho hg hd hx hy
theorem op_cutSt {lo hi : Nat} {ol oh : Option Operand} (ho : o.op = .slice t x ol oh none) (hg : o.guard = none) (hd : dstB o.dst C.nt = true) (hx : S.ev x = some (.c (.string s))) (hu' : tabLook undT t = some .string) (hs : s = strL l := by first | with_reducible rfl | assumption) (hl : EvO S ol 0 lo := by first | exact evO_none | exact evO_some (by first | exact evK_const rfl | exact evK_tmp rfl)) (hh : EvO S oh l.length hi := by first | exact evO_none | exact evO_some (by first | exact evK_const rfl | exact evK_tmp rfl)) (h1 : lo ≤ hi := by omega) (h2 : hi ≤ l.length := by first | omega | (simp only [List.length_cons, List.length_nil]; omega)) :
    OpG C Try.prog ops o S ⟨opT x ++ (opO ol ++ opO oh), [], dw o.dst (.c (.string (strL ((l.drop lo).take (hi - lo))))), [], []⟩ := by
  subst hs
  refine opG_mk hg fun S' h1' h2' _ e a w hS => ?_
  have hevx : a.eval x = .string (strL l) := hS.ev ((ev_like h1' fun _ h => List.mem_append_left _ h).trans hx)
  have hlo := evO_run hS hl fun i hi => h1' i (by simp [hi])
  have hhi := evO_run hS hh fun i hi => h1' i (by simp [hi])
  have hu := tabAll_look undT_ok hu'
  have hsz := strL_size l
  refine wp_value (v := .string (strL ((l.drop lo).take (hi - lo)))) (w' := w) ?_ ⟨e, hS.put hd (.c _)⟩
  have hrun : (Instr.slice t (.string (strL l)) (ol.map a.eval) (oh.map a.eval) none).run Try.prog w = .ok (.string (strL ((l.drop lo).take (hi - lo)))) w := by
    rw [← strL_cut]
    rcases hlo with ⟨e1, rfl⟩ | ⟨k, e1⟩ <;> rcases hhi with ⟨e2, rfl⟩ | ⟨k', e2⟩ <;> rw [e1, e2]
    · simp [Instr.slice, Instr.sliceBounds, run_underlying hu, hsz]
      rw [strL_cut]; simp
    · have h3 : (0 : Int) ≤ (hi : Int) ∧ (hi : Int) ≤ ((strL l).size : Int) := by omega
      simp [Instr.slice, Instr.sliceBounds, Instr.sliceBound, asIntOf, run_underlying hu, h3]
      intro hc; omega
    · have h3 : (0 : Int) ≤ (lo : Int) ∧ (lo : Int) ≤ ((strL l).size : Int) := by omega
      simp [Instr.slice, Instr.sliceBounds, Instr.sliceBound, asIntOf, run_underlying hu, h3, hsz]
      intro hc; omega
    · have := run_slice_string (P := Try.prog) w t (strL l) k k' (lo : Int) (hi : Int) hu (by omega) (by omega) (by omega)
      simpa using this
  have hat : (Instr.sliceAt t (.string (strL l)) (ol.map a.eval) (oh.map a.eval) none).run Try.prog w = .ok (.string (strL ((l.drop lo).take (hi - lo)))) w := by
    simp only [Instr.sliceAt, Sem.run_bind, run_underlying hu w, Result.andThen_ok]
    exact hrun
  simp only [execOp, ho, hevx, Sem.run_bind]
  rw [show (none : Option Operand).map a.eval = none from rfl, hat]
  simp only [Result.andThen_ok, Sem.run_pure]
end
theorem valsL_setz {k : IntKind} {m : Nat} {l : List (BitVec m)} {i : Nat} {z : Int} (hz : (decide (0 ≤ z) && decide (z < 2 ^ m)) = true) : (valsL k l).set i (.int k z) = valsL k (l.set i (BitVec.ofInt m z)) := by
  rw [← valsL_set, ← litb m z hz]
/-! ### a few bytes in a block -/
def LitL (k : IntKind) {m : Nat} : List SV → List (BitVec m) → Prop
  | [], [] => True
  | v :: vs, x :: l => (∀ e, v.den e = .int k (bvi x)) ∧ LitL k vs l
  | _, _ => False
theorem litl_nil {k : IntKind} {m : Nat} : LitL k ([] : List SV) ([] : List (BitVec m)) := trivial
theorem litl_bv {k : IntKind} {m : Nat} {x : BitVec m} {vs : List SV} {l : List (BitVec m)} (h : LitL k vs l) : LitL k (SV.c (.int k (bvi x)) :: vs) (x :: l) := ⟨fun _ => rfl, h⟩
theorem litl_z {k : IntKind} {m : Nat} {z : Int} {vs : List SV} {l : List (BitVec m)} (hz : (decide (0 ≤ z) && decide (z < 2 ^ m)) = true) (h : LitL k vs l) : LitL k (SV.c (.int k z) :: vs) (BitVec.ofInt m z :: l) := ⟨fun _ => by rw [← litb m z hz]; rfl, h⟩
theorem litl_map {k : IntKind} {m : Nat} (e : Env) : ∀ {vs : List SV} {l : List (BitVec m)}, LitL k vs l → vs.map (·.den e) = valsL k l
  | [], [], _ => rfl
  | v :: vs, x :: l, h => by
    have := litl_map e h.2
    simp only [List.map_cons, h.1 e, this]
    rfl
theorem rdn_lit {n : Nat} {T : TypeId} {wr : Bool} {k : IntKind} {m : Nat} {vs : List SV} {l : List (BitVec m)} {len cap : Nat} (hr : S.res n = some (.blk n T (.l vs) wr)) (hl : LitL k vs l) (hc : l.length = len) : RdN C S [n] 1 (.s n 0 len cap) len (valsL k l) := by
  subst hc
  intro S' e a w h hS
  obtain ⟨fr, hb, _⟩ := res_blk hS ((h n (by simp)).trans hr)
  refine ⟨by rw [valsL_length]; omega, some ⟨(e n).b, 0, none⟩, cap, rfl, .inr ⟨(e n).b, 0, rfl, fun j u hu => ?_⟩⟩
  rw [cell_of_row w _ _ _ _ _ hb, Nat.zero_add]
  have := litl_map e hl
  simp only [SA.l, this]
  simpa using hu
theorem fsq_lit {n : Nat} {T : TypeId} {wr : Bool} {vs : List SV} {l : List (BitVec 8)} {len cap : Nat} (hr : S.res n = some (.blk n T (.l vs) wr)) (hl : LitL .u8 vs l) (hc : l.length = len) (hcap : len ≤ cap) : FSQ C S [n] (.s n 0 len cap) l := fun S' e a w hq hS => by
  subst hc
  exact ⟨rdn_lit hr hl rfl S' e a w hq hS, _, _, rfl, hcap⟩
/-! ### a slice, converted to its own type -/
theorem Holds.freeze {e : Env} {a : Act} {w w' : World} (hS : Holds C S e a w) {n : Nat} {T : TypeId} {A : SA} (hr : S.res n = some (.blk n T A)) (hos : w'.os = w.os) (htape : w'.tape = w.tape) (hout : w'.output = w.output) (hsz : w'.heap.size = w.heap.size)
    (hn : ∃ fr, w'.heap[(e n).b]? = some (.cells (A.den e) T fr)) (hoth : ∀ k, k ≠ (e n).b → w'.heap[k]? = w.heap[k]?) : Holds C ⟨S.t, (n, some (.blk n T A false)) :: S.h⟩ e a w' := by
  have hm : ∀ b, b = (e n).b → C.mine b := fun b hb => hS.mine n _ hr rfl b hb
  refine ⟨hS.defers, hS.size, hS.tmp, fun m r h => ?_, fun m r h hw b hb => ?_, fun m k r r' h h' hne hw b hb => ?_, ⟨hos.trans hS.frame.os, htape.trans hS.frame.tape, hout.trans hS.frame.output, by rw [hsz]; exact hS.frame.size, fun k hk hkm => ?_⟩⟩
  · rw [St.res_cons] at h
    split at h
    · cases h
      obtain ⟨fr, hn⟩ := hn
      exact ⟨fr, hn, fun h => by cases h⟩
    · rename_i hne
      refine r.loc e w w' (fun b hb => hoth b fun he => ?_) (hS.res m r h)
      exact hS.sep n m _ r hr h hne rfl (e n).b rfl (he ▸ hb)
  · rw [St.res_cons] at h
    split at h
    · cases h; exact hm b hb
    · exact hS.mine m r h hw b hb
  · rw [St.res_cons] at h h'
    split at h
    · rename_i h1; cases h; cases hw
    · split at h'
      · rename_i h2; cases h'; subst h2
        exact hS.sep m n r _ h hr hne hw b hb
      · exact hS.sep m k r r' h h' hne hw b hb
  · rw [hoth k ?_]
    · exact hS.frame.block k hk hkm
    · intro he
      rcases hm k he with h | h
      · exact absurd hk (by omega)
      · exact hkm h
theorem run_markStringish (w : World) (b off : Nat) {A : Array Value} {T : TypeId} {fr : Nat × Nat} (h : w.heap[b]? = some (.cells A T fr)) :
    ∃ w', (markStringish ⟨b, off, none⟩).run Try.prog w = .ok () w' ∧ w'.os = w.os ∧ w'.tape = w.tape ∧ w'.output = w.output ∧ w'.heap.size = w.heap.size ∧ (∃ fr, w'.heap[b]? = some (.cells A T fr)) ∧ ∀ k, k ≠ b → w'.heap[k]? = w.heap[k]? := by
  refine ⟨w.freeze ⟨b, A.size, none⟩ 1, ?_, ?_, ?_, ?_, ?_, ?_, ?_⟩
  · simp [markStringish, World.shape?, h]
  · simp [World.freeze]
  · simp [World.freeze]
  · simp [World.freeze]
  · simp [World.freeze]
  · refine ⟨if fr.1 == fr.2 then (A.size, A.size + 1) else (min fr.1 A.size, max fr.2 (A.size + 1)), ?_⟩
    simp [World.freeze, Array.getElem?_modify, h]
  · intro k hk
    simp [World.freeze, Array.getElem?_modify, Ne.symm hk]
theorem op_convSelf {src e0 : TypeId} {x : Operand} {n off len cap : Nat} {T : TypeId} {A : SA} (ho : o.op = .convert src src x) (hg : o.guard = none) (hd : dstB o.dst C.nt = true) (hx : S.ev x = some (.s n off len cap)) (hs' : tabLook undT src = some (.slice e0)) (he' : tabLook undT e0 = some (.int .u8)) (hr : S.res n = some (.blk n T A)) :
    OpG C Try.prog ops o S ⟨opT x, n :: A.sup, dw o.dst (.s n off len cap), [(n, some (.blk n T A false))], []⟩ := by
  refine opG_mk hg fun S' h1 h2 h3 e a w hS => ?_
  have hev : a.eval x = .slice (some ⟨(e n).b, off, none⟩) len cap := hS.ev ((ev_like h1 fun _ h => h).trans hx)
  have hr' := (h2 n (by simp)).trans hr
  obtain ⟨fr, hb, hfr⟩ := res_blk hS hr'
  have us := tabAll_look undT_ok hs'
  have ue := tabAll_look undT_ok he'
  obtain ⟨w', hrun, g1, g2, g3, g4, g5, g6⟩ := run_markStringish w (e n).b off hb
  refine wp_value (v := .slice (some ⟨(e n).b, off, none⟩) len cap) (w' := w') ?_ ⟨e, (hS.freeze hr' g1 g2 g3 g4 g5 g6).put hd (.s n off len cap)⟩
  simp [execOp, ho, hev, convert, run_underlying us, run_underlying ue, hrun]
end Go.Proofs.Ytgjlpnendljcaaa

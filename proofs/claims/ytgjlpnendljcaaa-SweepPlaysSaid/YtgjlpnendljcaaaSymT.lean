/- Operations on slices that begin somewhere in a block of their own; slices stored into objects; calls that change objects which hold them. No condition. -/
import Derived.Test.YtgjlpnendljcaaaSymS
namespace Go.Proofs.Ytgjlpnendljcaaa
open Go.RowKit
set_option maxRecDepth 100000
variable {C : Ctx} {ops : Array Oper} {S : St} {o : Oper}
/-! ### read -/
theorem rdn_osub {n : Nat} {T : TypeId} {len : Nat} {xs : List Value} (hr : S.res n = some (.osub n T len xs)) : RdN C S [n] 1 (.v n) len xs := by
  intro S' e a w h hS
  have hok : ownsSub w T (e n).v len xs := hS.res n _ ((h n (by simp)).trans hr)
  refine ⟨by rw [hok.1, Nat.mul_one], ?_⟩
  show ∃ a c, (e n).v = .slice a len c ∧ _
  rcases hok.2 with ⟨h1, h2⟩ | ⟨g, off, cap, cur, h1, _⟩
  · rw [h1, h2]; exact ⟨_, _, rfl, .inl rfl⟩
  · rw [h1] at hok ⊢
    exact ⟨_, _, rfl, .inr ⟨g, off, rfl, fun j u hu => hok.cell j u hu⟩⟩
theorem fs_osub {w : World} {T : TypeId} {v : Value} {len : Nat} {xs : List Value} (hok : ownsSub w T v len xs) : FS w 1 v len xs := by
  rcases hok.2 with ⟨h1, h2⟩ | ⟨g, off, cap, cur, h1, _, hn, _⟩
  · have hx := hok.1
    rw [h1]
    exact ⟨⟨by rw [hx, Nat.mul_one], none, 0, by rw [h2], .inl h2⟩, none, 0, by rw [h2], by omega⟩
  · rw [h1] at hok ⊢
    exact ⟨⟨by rw [hok.1, Nat.mul_one], _, _, rfl, .inr ⟨g, off, rfl, fun j u hu => hok.cell j u hu⟩⟩, _, _, rfl, hn⟩
theorem fsq_osub {n : Nat} {T k : Nat} {d : List (BitVec 8)} (hr : S.res n = some (.osub n T k (valsL .u8 d))) : FSQ C S [n] (.v n) d := fun S' e a w hq hS => by
  have hok : ownsSub w T (e n).v k (valsL .u8 d) := hS.res n _ ((hq n (by simp)).trans hr)
  have hk : k = d.length := by have := hok.1; rw [valsL_length] at this; omega
  subst hk; exact fs_osub hok
theorem fsq_subU {n : Nat} {T k lo cnt : Nat} {d : List (BitVec 8)} (hr : S.res n = some (.osub n T k (valsL .u8 d))) (h : lo + cnt ≤ k) {d' : List (BitVec 8)} (hd' : (d.drop lo).take cnt = d') : FSQ C S [n] (.sub n lo cnt) d' := fun S' e a w hq hS => by
  have hok : ownsSub w T (e n).v k (valsL .u8 d) := hS.res n _ ((hq n (by simp)).trans hr)
  have hk : k = d.length := by have := hok.1; rw [valsL_length] at this; omega
  have := (fs_osub hok).cutB (lo := lo) (len := cnt) h
  have hl : d'.length = cnt := by rw [← hd', List.length_take, List.length_drop]; omega
  rw [hd'] at this
  rw [hl]
  exact this
theorem op_lenU {dst : Option Tmp} {x : Operand} {t T ty : TypeId} {pos : String} {after : Array Edge} {n len : Nat} {T0 : TypeId} {xs : List Value} (hd : dstB dst C.nt = true) (hx : S.ev x = some (.v n)) (hr : S.res n = some (.osub n T0 len xs)) (hu' : tabLook undT t = some (.slice T)) : OpG C Try.prog ops ⟨dst, .call { callee := .builtin .len, args := #[x], argTypes := #[t] }, ty, pos, after, none⟩ S ⟨opT x, [n], dw dst (.c (.int .i64 ((len : Nat) : Int))), [], []⟩ :=
  op_lenR hd hx hu' (rdn_osub hr)
/-! ### cut -/
theorem ownsSub.cut_den {w : World} {T : TypeId} {v : Value} {n : Nat} {xs : List Value} (h : ownsSub w T v n xs) : ∃ ad cap, v = .slice ad n cap ∧ n ≤ cap := by
  rcases h.2 with ⟨rfl, rfl⟩ | ⟨g, off, cap, cur, rfl, _, hn, _⟩
  · exact ⟨_, _, rfl, Nat.le_refl _⟩
  · exact ⟨_, _, rfl, hn⟩
theorem op_cutUS {x : Operand} {t T : TypeId} {n lo hi len : Nat} {T0 : TypeId} {xs : List Value} {ol oh : Option Operand} (ho : o.op = .slice t x ol oh none) (hg : o.guard = none) (hd : dstB o.dst C.nt = true) (hx : S.ev x = some (.v n)) (hr : S.res n = some (.osub n T0 len xs)) (hu' : tabLook undT t = some (.slice T)) (hs' : tabLook sizT T = some 1) (hl : EvO S ol 0 lo) (hh : EvO S oh len hi) (h1 : lo ≤ hi) (h2 : hi ≤ len) :
    OpG C Try.prog ops o S ⟨opT x ++ (opO ol ++ opO oh), [n], dw o.dst (.sub n lo (hi - lo)), [], []⟩ :=
  op_cut ho hg hd hx hu' hs' hl hh h1 (fun S' e a w hq hS => by
    have hok : ownsSub w T0 (e n).v len xs := hS.res n _ ((hq n (by simp)).trans hr)
    obtain ⟨ad, cap, hv, hc⟩ := hok.cut_den
    refine ⟨ad, cap, hv, by omega, ?_⟩
    show cutV (e n).v lo (hi - lo) = _
    rw [hv, Nat.mul_one]
    rfl) rfl
theorem op_cutU {x : Operand} {t T m n lo len : Nat} {T0 : TypeId} {k : IntKind} {q : Nat} {l : List (BitVec q)} {ol : Option Operand} (ho : o.op = .slice t x ol none none) (hdn : o.dst = some n) (hg : o.guard = none) (hd : dstB o.dst C.nt = true) (hx : S.ev x = some (.v m)) (hr : S.res m = some (.osub m T0 len (valsL k l))) (hu' : tabLook undT t = some (.slice T)) (hs' : tabLook sizT T = some 1) (hl : EvO S ol 0 lo := by first | exact evO_none | exact evO_some (by first | exact evK_const rfl | exact evK_tmp rfl)) (h1 : lo ≤ len := by first | omega | decide) (hmn : Nat.beq m n = false := by exact rfl) :
    OpG C Try.prog ops o S ⟨opT x ++ opO ol, [m], [(n, .v n)], [(m, none), (n, some (.osub n T0 (len - lo) (valsL k (l.drop lo))))], [n]⟩ := by
  refine opG_mk hg fun S' h1' h2' h3' e a w hS => ?_
  have hr' := (h2' m (by simp)).trans hr
  have hok : ownsSub w T0 (e m).v len (valsL k l) := hS.res m _ hr'
  obtain ⟨ad, cap, hv, hc⟩ := hok.cut_den
  have hevx : a.eval x = .slice ad len cap := (hS.ev ((ev_like h1' fun _ h => List.mem_append_left _ h).trans hx)).trans hv
  have e1 := evO_run (a := a) hS hl (fun i hi => h1' i (List.mem_append_right _ hi))
  have e1' : ∃ k1, (ol.map a.eval = none ∧ lo = 0) ∨ ol.map a.eval = some (.int k1 ((lo : Nat) : Int)) := by
    rcases e1 with h | ⟨k, h⟩
    · exact ⟨.i64, .inl h⟩
    · exact ⟨k, .inr h⟩
  obtain ⟨k1, e1'⟩ := e1'
  have hrun := run_cut (a := ad) (k2 := .i64) (oh := none) hu' hs' h1 hc e1' (.inl ⟨rfl, rfl⟩) w
  have hcut := hok.cut h1
  have hne : m ≠ n := fun h => by subst h; simp at hmn
  have hval : cutV (e m).v lo (len - lo) = .slice (if cap = lo then ad else ad.map (·.add lo)) (len - lo) (cap - lo) := by rw [hv]; rfl
  have hH := hS.chg (w' := w) [(n, .osub n T0 (len - lo) ((valsL k l).drop lo))] [m] (h3' n (by simp)) ⟨0, 0, cutV (e m).v lo (len - lo)⟩ rfl rfl rfl (Nat.le_refl _)
    (fun k hk r hr2 => by
      rcases List.mem_cons.1 hk with rfl | hk
      · rw [hr'] at hr2; cases hr2; rfl
      · cases hk) (fun _ _ _ => rfl)
    (fun p hp => by
      rcases List.mem_cons.1 hp with rfl | hp
      · show ownsSub w T0 ((e.set n _) n).v _ _
        rw [Env.set_self]; exact hcut
      · cases hp)
    (fun p hp b hb => by
      rcases List.mem_cons.1 hp with rfl | hp
      · have hb : ((e.set n ⟨0, 0, cutV (e m).v lo (len - lo)⟩) n).v.ownBlock = some b := hb
        rw [Env.set_self] at hb
        refine .inl ⟨m, by simp, _, hr', ?_⟩
        show (e m).v.ownBlock = some b
        rw [← hb, hval, hv]
        split
        · cases ad <;> rfl
        · cases ad with
          | none => rfl
          | some ad => exact congrArg some (by unfold Addr.add; split <;> rfl)
      · cases hp)
    (fun p hp p' hp' hne' b hb hb' => by
      rcases List.mem_cons.1 hp with rfl | hp
      · rcases List.mem_cons.1 hp' with rfl | hp'
        · exact hne' rfl
        · cases hp'
      · cases hp)
  have hH2 : Holds C ⟨S'.t, (m, none) :: (n, some (.osub n T0 (len - lo) (valsL k (l.drop lo)))) :: S'.h⟩ (e.set n ⟨0, 0, cutV (e m).v lo (len - lo)⟩) a w := by
    refine hH.like ⟨fun _ => rfl, fun q => ?_⟩
    show _ = (St.mk S'.t ((n, some (.osub n T0 (len - lo) ((valsL k l).drop lo))) :: (m, none) :: S'.h)).res q
    simp only [St.res_cons]
    have hdd : (valsL k l).drop lo = valsL k (l.drop lo) := by simp [valsL]
    by_cases hq : m = q
    · subst hq; simp [Ne.symm hne]
    · simp [hq, hdd]
  refine wp_value (v := cutV (e m).v lo (len - lo)) (w' := w) ?_ ⟨e.set n ⟨0, 0, cutV (e m).v lo (len - lo)⟩, ?_⟩
  · simp only [execOp, ho, hevx, Option.map_none, Sem.run_bind, hrun, Result.andThen_ok, Sem.run_pure, hval, Nat.mul_one]
  · rw [hdn]
    have hd' : dstB (some n) C.nt = true := by rw [← hdn]; exact hd
    have := hH2.put hd' (.v n)
    simp only [SV.v, Env.set_self] at this
    exact this
/-! ### append -/
theorem run_append_roomAt {P : Program} (w : World) (t ty e : TypeId) (i : TypeInfo) (ht : P.underlying t = some (.slice e)) (hi : P.info? e = some i) (hi1 : i.size = 1)
    (g off sLen sCap : Nat) (cur : Array Value) (hg : w.heap[g]? = some (.cells cur e (0, 0)))
    (a : Addr) (m c : Nat) (news : List Value) (hl : news.length = m * i.size) (hnews : ∀ j u, news[j]? = some u → w.cell? (a.add j) = some u) (h1 : ∀ u ∈ news, u.oneCell' = true)
    (hroom : sLen + m ≤ sCap) (hfit : off + sLen + news.length ≤ cur.size) :
    (Builtin.append_ #[t, t] ty #[.slice (some ⟨g, off, none⟩) sLen sCap, .slice (some a) m c]).run P w =
      .ok (.slice (some ⟨g, off, none⟩) (sLen + m) sCap) (w.setRow g (cur.toList.take (off + sLen) ++ news ++ cur.toList.drop (off + sLen + news.length)).toArray) := by
  have hf := run_firstCells_some (P := P) w i.size m a m c news hl hnews
  have hst := run_storeCells_at P g (off + sLen) e news 0 cur w hg (by simpa using hfit) h1
  simp only [Nat.add_zero] at hst
  simp [Builtin.append_, run_underlying ht, sizeOf, typeInfo, hi, Builtin.lenOf, hroom, hf, add_place, hi1, hst]
  rw [← hi1, hf]
  simp [hst]
theorem sub_append {w : World} {T n : Nat} {xs : List Value} {v : Value} {m : Nat} {news : List Value} {t ty : TypeId} {by_ : Nat} {A : Array Value} (hu' : tabLook undT t = some (.slice T)) (hs' : tabLook sizT T = some 1) (hy' : tabLook bytT T = some by_) (hz' : tabLook zerT T = some A) (hA : A.size = 1)
    (hown : ownsSub w T v n xs) {v2 : Value} (hrd : RdV w 1 v2 m news) (h1 : ∀ u ∈ news, u.oneCell' = true) (hmax : n + m ≤ maxLen) (hbytes : (n + m) * by_ ≤ 140737488355328) :
    ∃ v' w', (Builtin.append_ #[t, t] ty #[v, v2]).run Try.prog w = .ok v' w' ∧ ownsSub w' T v' (n + m) (xs ++ news) ∧ w.grownBy w' v.ownBlock ∧ ∀ b, v'.ownBlock = some b → v.ownBlock = some b ∨ w.heap.size ≤ b := by
  have hu := tabAll_look undT_ok hu'
  have hs := tabAll_look sizT_ok hs'
  have hy := tabAll_look bytT_ok hy'
  have hz := tabAll_look zerT_ok hz'
  obtain ⟨i, hi, his, hib, z, hiz, hzs⟩ : ∃ i, Try.prog.info? T = some i ∧ i.size = 1 ∧ i.bytes = by_ ∧ ∃ z, i.zero = some z ∧ z.cells = A := by
    cases hq : Try.prog.info? T with
    | none => simp [hq] at hs
    | some i =>
      cases hzz : i.zero with
      | none => simp [hq, hzz] at hz
      | some z => exact ⟨i, rfl, by simpa [hq] using hs, by simpa [hq] using hy, z, hzz, by simpa [hq, hzz] using hz⟩
  obtain ⟨hl, a, c, rfl, hcell⟩ := hrd
  have hxl := hown.1
  by_cases hm0 : m = 0
  · subst hm0
    have hn0 : news = [] := List.eq_nil_of_length_eq_zero (by simpa using hl)
    subst hn0
    have hrun : (Builtin.append_ #[t, t] ty #[v, .slice a 0 c]).run Try.prog w = .ok v w := by
      rcases hown.2 with ⟨rfl, rfl⟩ | ⟨g, off, cap, cur, rfl, _, hnc, _⟩
      · cases a <;> simp [Builtin.append_, run_underlying hu, sizeOf, typeInfo, hi, Builtin.lenOf, Builtin.firstCells, loadCells, loadCellsFrom]
      · cases a <;> simp [Builtin.append_, run_underlying hu, sizeOf, typeInfo, hi, Builtin.lenOf, Builtin.firstCells, hnc, storeCells, loadCells, loadCellsFrom]
    exact ⟨v, w, hrun, by simpa using hown, ⟨rfl, rfl, rfl, Nat.le_refl _, fun _ _ _ => rfl⟩, fun b hb => .inl hb⟩
  · rcases hcell with h | ⟨b, off2, rfl, hcell⟩
    · exact absurd h hm0
    have hnews : ∀ j u, news[j]? = some u → w.cell? ((⟨b, off2, none⟩ : Addr).add j) = some u := fun j u hu => by rw [add_place]; exact hcell j u hu
    have h63 : ((n + m : Nat) : Int) ≤ 9223372036854775807 := by simp only [maxLen] at hmax; omega
    -- what a new block holds
    have made : ∀ old : Nat, old < n + m → ownsSub (w.drew.alloc (.cells (xs.toArray ++ news.toArray ++ Builtin.zeroCells z.cells (grownCap w (n + m) old T - (n + m))) T)) T (.slice (some ⟨w.heap.size, 0, none⟩) (n + m) (grownCap w (n + m) old T)) (n + m) (xs ++ news) := by
      intro old _
      have hge := grownCap_ge w (n + m) old T
      have hle := grownCap_le_maxLen w (n + m) old T hmax
      refine ⟨by rw [List.length_append, hxl, hl, Nat.mul_one], .inr ⟨w.heap.size, 0, grownCap w (n + m) old T, _, rfl, heap_alloc_new w.drew _, hge, hle, ?_, ?_⟩⟩
      · simp only [Array.size_append, List.size_toArray, size_zeroCells, hzs, hA, hxl, hl]
        omega
      · rw [List.drop_zero]
        simp only [Array.toList_append, List.append_assoc]
        rw [← List.append_assoc]
        exact List.take_left' (by rw [List.length_append, hxl, hl, Nat.mul_one])
    rcases hown.2 with ⟨rfl, rfl⟩ | ⟨g, off, cap, cur, rfl, hg, hnc, hcm, hcs, htake⟩
    · have hx : xs = [] := List.eq_nil_of_length_eq_zero hxl
      subst hx
      have hr := run_append_nil (P := Try.prog) w t ty T i z hu hi hiz ⟨b, off2, none⟩ m c news (by rw [his]; exact hl) hnews (by omega) (by omega) (by rw [hib]; have := hbytes; simp only [Nat.zero_add] at this; omega)
      have hgr := made 0 (by omega)
      simp only [Nat.zero_add, List.nil_append, Array.empty_append] at hgr ⊢
      exact ⟨_, _, hr, hgr, ⟨rfl, rfl, rfl, by simp, fun k hk _ => heap_alloc_old w.drew _ hk⟩, fun q hq => .inr (by simp [Value.ownBlock] at hq; omega)⟩
    · by_cases hroom : n + m ≤ cap
      · have hr := run_append_roomAt (P := Try.prog) w t ty T i hu hi his g off n cap cur hg ⟨b, off2, none⟩ m c news (by rw [his]; exact hl) hnews h1 hroom (by rw [hl]; omega)
        refine ⟨_, _, hr, ⟨by rw [List.length_append, hxl, hl, Nat.mul_one], .inr ⟨g, off, cap, _, rfl, setRow_heap w g cur _ T _ hg, hroom, hcm, ?_, ?_⟩⟩, ⟨rfl, rfl, rfl, by simp, fun k _ hk => setRow_other w g k _ (fun e => hk (by simp [Value.ownBlock, e]))⟩, fun q hq => .inl hq⟩
        · simp only [List.size_toArray, List.length_append, List.length_take, List.length_drop, Array.length_toList]
          omega
        · simp only [List.append_assoc]
          have hlc : cur.toList.length = cur.size := Array.length_toList
          rw [List.drop_append_of_le_length (by rw [List.length_take, hlc]; omega), ← List.append_assoc, List.drop_take, show off + n - off = n by omega, htake]
          exact List.take_left' (by rw [List.length_append, hxl, hl, Nat.mul_one])
      · have holds : ∀ j u, xs[j]? = some u → w.cell? ((⟨g, off, none⟩ : Addr).add j) = some u := fun j u hu => by rw [add_place]; exact hown.cell j u hu
        have hr := run_append_grow (P := Try.prog) w t ty T i z hu hi hiz ⟨g, off, none⟩ n cap xs (by rw [his, Nat.mul_one]; exact hxl) holds ⟨b, off2, none⟩ m c news (by rw [his]; exact hl) hnews (by omega) h63 (growslice_fits (by omega) (by rw [hib]; exact hbytes))
        exact ⟨_, _, hr, made cap (by omega), ⟨rfl, rfl, rfl, by simp, fun k hk _ => heap_alloc_old w.drew _ hk⟩, fun q hq => .inr (by simp [Value.ownBlock] at hq; omega)⟩
theorem op_appendU {x y : Operand} {t T len cnt by_ m n b : Nat} {k : IntKind} {l l2 : List (BitVec b)} {A : Array Value} {v2 : SV} {ns : List Nat} {ty : TypeId} {pos : String} {after : Array Edge} (hd : dstB (some n) C.nt = true) (hx : S.ev x = some (.v m)) (hr : S.res m = some (.osub m T len (valsL k l))) (hy : S.ev y = some v2)
    (hu' : tabLook undT t = some (.slice T)) (hs' : tabLook sizT T = some 1) (hy' : tabLook bytT T = some by_) (hz' : tabLook zerT T = some A) (hA : A.size = 1) (hrd : RdN C S ns 1 v2 cnt (valsL k l2) := by first | exact rdn_one rfl | exact rdn_ones rfl rfl | exact rdn_own rfl | exact rdn_osub rfl | exact rdn_whole rfl (by first | omega | (simp; omega) | (simp <;> fail) | omega) | exact rdn_sub rfl (by first | omega | decide) | exact rdn_blk rfl (by first | omega | (simp; omega) | (simp <;> fail) | omega) | exact rdn_nil | exact rdn_lit rfl (by repeat (first | exact litl_nil | apply litl_bv | refine litl_z rfl ?_)) rfl | exact rdn_oldX (by assumption) | exact rdn_oldR (by assumption) | exact rdn_oldX (FSX.cutB (by assumption) (by omega)) | exact rdn_old (by assumption) (by omega) rfl | exact rdn_old (FS.rd (by first | assumption | exact FSX.fs (by assumption) | (refine FS.cutB (by assumption) ?_; omega) | (refine FS.cut (by assumption) ?_; omega))) (by omega) rfl)
    (hmax : len + cnt ≤ 1099511627776 ∧ (len + cnt) * by_ ≤ 140737488355328 := by omega) (hmn : Nat.beq m n = false := by exact rfl) :
    OpG C Try.prog ops ⟨some n, .call { callee := .builtin .append, args := #[x, y], argTypes := #[t, t] }, ty, pos, after, none⟩ S ⟨opT x ++ opT y, m :: (v2.sup ++ ns), [(n, .v n)], [(m, none), (n, some (.osub n T (len + cnt) (valsL k (l ++ l2))))], [n]⟩ := by
  refine opG_mk rfl fun S' h1' h2' h3' e a w hS => ?_
  have hevx : a.eval x = (e m).v := hS.ev ((ev_like h1' fun _ h => List.mem_append_left _ h).trans hx)
  have hevy : a.eval y = v2.den e := hS.ev ((ev_like h1' fun _ h => List.mem_append_right _ h).trans hy)
  have hr' := (h2' m (by simp)).trans hr
  have hown : ownsSub w T (e m).v len (valsL k l) := hS.res m _ hr'
  have hrv := hrd S' e a w (fun q hq => h2' q (by simp [hq])) hS
  obtain ⟨v', w', hrun, ho, hg, hb⟩ := sub_append (t := t) (ty := ty) hu' hs' hy' hz' hA hown hrv (valsL_one l2) (by simp only [maxLen]; omega) hmax.2
  have hex := run_builtin_append (a := a) (x := x) (y := y) (t := t) (ty := ty) (w := w) (r := .ok v' w') (dst := some n) (pos := pos) (after := after) (by rw [hevx, hevy]; exact hrun)
  have hne : m ≠ n := fun h => by subst h; simp at hmn
  have hH := hS.chg (w' := w') [(n, .osub n T (len + cnt) (valsL k l ++ valsL k l2))] [m] (h3' n (by simp)) ⟨0, 0, v'⟩ hg.os hg.tape hg.output hg.size
    (fun k hk r hr2 => by
      rcases List.mem_cons.1 hk with rfl | hk
      · rw [hr'] at hr2; cases hr2; rfl
      · cases hk) (fun b hb hnot => hg.block b hb fun he => hnot m (by simp) _ hr' (show (e m).v.ownBlock = some b from he.symm))
    (fun p hp => by
      rcases List.mem_cons.1 hp with rfl | hp
      · show ownsSub w' T ((e.set n _) n).v _ _
        rw [Env.set_self]; exact ho
      · cases hp)
    (fun p hp b hb' => by
      rcases List.mem_cons.1 hp with rfl | hp
      · have hb' : ((e.set n ⟨0, 0, v'⟩) n).v.ownBlock = some b := hb'
        rw [Env.set_self] at hb'
        rcases hb b hb' with h | h
        · exact .inl ⟨m, by simp, _, hr', h⟩
        · exact .inr h
      · cases hp)
    (fun p hp p' hp' hne' b hb hb' => by
      rcases List.mem_cons.1 hp with rfl | hp
      · rcases List.mem_cons.1 hp' with rfl | hp'
        · exact hne' rfl
        · cases hp'
      · cases hp)
  have hH2 : Holds C ⟨S'.t, (m, none) :: (n, some (.osub n T (len + cnt) (valsL k (l ++ l2)))) :: S'.h⟩ (e.set n ⟨0, 0, v'⟩) a w' := by
    refine hH.like ⟨fun _ => rfl, fun q => ?_⟩
    show _ = (St.mk S'.t ((n, some (.osub n T (len + cnt) (valsL k l ++ valsL k l2))) :: (m, none) :: S'.h)).res q
    simp only [St.res_cons]
    by_cases hq : m = q
    · subst hq; simp [Ne.symm hne]
    · simp [hq, valsL_append]
  refine wp_value hex ⟨e.set n ⟨0, 0, v'⟩, ?_⟩
  have := hH2.put hd (.v n)
  simp only [SV.v, Env.set_self] at this
  exact this
/-! ### a slice as an array's place -/
theorem op_s2a {t T : TypeId} {x : Operand} {m n off len cap : Nat} (ho : o.op = .sliceToArrayPointer t x) (hg : o.guard = none) (hd : dstB o.dst C.nt = true) (hx : S.ev x = some (.s n off len cap)) (hu' : tabLook undT t = some (.array m T)) (hm : Nat.ble m len = true) : OpG C Try.prog ops o S ⟨opT x, [n], dw o.dst (.p n off), [], []⟩ :=
  op_one (v := .p n off) hg hd hx fun e ρ w h1 => by
    have h1' : ρ x = .slice (some ⟨(e n).b, off, none⟩) len cap := h1
    have hu := tabAll_look undT_ok hu'
    have hm2 : m ≤ len := Nat.le_of_ble_eq_true hm
    have hlt : ¬ len < m := by omega
    simp [execOp, ho, h1', Instr.arrayAt, Sem.run_bind, run_underlying hu w, hlt, SV.p]
/-! ### a slice stored into an object -/
def OneC (C : Ctx) (S : St) (rb : List Nat) (v : SV) : Prop := ∀ (S' : St) e a w, Holds C S' e a w → (∀ q ∈ rb, S'.res q = S.res q) → (v.den e).cells = #[v.den e] ∧ (v.den e).oneCell' = true
theorem one_own {n : Nat} {T : TypeId} {size len : Nat} {xs : List Value} (hr : S.res n = some (.own n T size len xs)) : OneC C S [n] (.v n) := fun S' e a w hS hq => by
  have h : w.ownsRow 0 T size (e n).v len xs := hS.res n _ ((hq n (by simp)).trans hr)
  show (e n).v.cells = #[(e n).v] ∧ (e n).v.oneCell' = true
  rcases h.2 with ⟨h3, _⟩ | ⟨g, cap, cur, h3, _⟩ <;> rw [h3] <;> exact ⟨rfl, rfl⟩
theorem one_osub {n : Nat} {T : TypeId} {len : Nat} {xs : List Value} (hr : S.res n = some (.osub n T len xs)) : OneC C S [n] (.v n) := fun S' e a w hS hq =>
  (show ownsSub w T (e n).v len xs from hS.res n _ ((hq n (by simp)).trans hr)).own
theorem op_storeO {ty : TypeId} {x y : Operand} {n off : Nat} {T : TypeId} {A A' : SA} {v : SV} {rb : List Nat} (ho : o.op = .store ty x y) (hg : o.guard = none) (hdst : o.dst = none) (hx : S.ev x = some (.p n off)) (hy : S.ev y = some v) (hr : S.res n = some (.blk n T A))
    (hi' : tabLook sizT ty = some 1) (hv : OneC C S rb v) (hoff : ∀ e, off < (A.den e).size := by (fail_if_success (with_reducible apply trap_sz)); repeat (first | ((with_reducible apply sz_vals); exact (by first | omega | (simp; omega) | (simp <;> fail) | omega)) | ((with_reducible apply sz_l); (first | decide | (simp only [List.length_set, List.length_cons, List.length_nil]; omega))) | ((with_reducible apply sz_c); decide) | ((with_reducible apply sz_appL); first | ((with_reducible apply sz_l); (first | decide | (simp only [List.length_set, List.length_cons, List.length_nil]; omega))) | ((with_reducible apply sz_vals); exact (by first | omega | (simp; omega) | (simp <;> fail) | omega))) | ((with_reducible apply sz_appR); (· exact (by (fail_if_success (with_reducible apply trap_sm)); first | ((with_reducible apply sm_vals); first | (with_reducible assumption) | (simp <;> fail) | rfl) | ((with_reducible apply sm_c); rfl) | ((with_reducible apply sm_l); rfl)))))) (hA : ∀ e, (A.den e).setIfInBounds off (v.den e) = A'.den e := by (fail_if_success (with_reducible apply trap_set)); repeat (first | (with_reducible exact st_vals) | ((with_reducible apply st_valsz); rfl) | (with_reducible exact st_l) | (with_reducible exact st_c) | ((with_reducible apply set_appR); (· exact (by (fail_if_success (with_reducible apply trap_sm)); first | ((with_reducible apply sm_vals); first | (with_reducible assumption) | (simp <;> fail) | rfl) | ((with_reducible apply sm_c); rfl) | ((with_reducible apply sm_l); rfl))); (· rfl)) | ((with_reducible apply set_appL); (· exact (by (fail_if_success (with_reducible apply trap_sz)); first | ((with_reducible apply sz_vals); exact (by first | omega | (simp; omega) | (simp <;> fail) | omega)) | ((with_reducible apply sz_l); (first | decide | (simp only [List.length_set, List.length_cons, List.length_nil]; omega))) | ((with_reducible apply sz_c); decide)))))) :
    OpG C Try.prog ops o S ⟨opT x ++ opT y, n :: (A'.sup ++ rb), [], [(n, some (.blk n T A'))], []⟩ := by
  have hi := tabAll_look sizT_ok hi'
  refine opG_mk hg fun S' h1 h2 h3 e a w hS => ?_
  have hev : a.eval x = .pointer (some ⟨(e n).b, off, none⟩) := hS.ev ((ev_like h1 fun _ h => List.mem_append_left _ h).trans hx)
  have hevy : a.eval y = v.den e := hS.ev ((ev_like h1 fun _ h => List.mem_append_right _ h).trans hy)
  have hr' := (h2 n (by simp)).trans hr
  obtain ⟨fr, hb, hfr⟩ := res_blk hS hr'
  rw [hfr rfl] at hb
  obtain ⟨hcs, hone⟩ := hv S' e a w hS (fun q hq => h2 q (by simp [hq]))
  have hc : w.cell? ⟨(e n).b, off, none⟩ = some ((A.den e)[off]'(hoff e)) := (cell_of_row w _ off _ _ _ hb).trans (by simp [hoff e])
  have hf : w.frozen? ⟨(e n).b, off, none⟩ = false := frozen_of_row w _ off _ _ hb
  refine wp_skip' (w' := w.setCell ⟨(e n).b, off, none⟩ (v.den e)) ?_ ⟨e, ?_⟩
  · cases hq : Try.prog.info? ty with
    | none => simp [hq] at hi
    | some i =>
      have hs : i.size = 1 := by simpa [hq] using hi
      simp [execOp, ho, hev, hevy, Instr.storeAt, Instr.sureAddr, storeVar, sizeOf, typeInfo, hq, hs, hcs, storeCells, run_store Try.prog _ _ _ _ hone, hc, hf, Addr.add]
  · rw [hdst]
    refine hS.write hr' rfl rfl rfl (by simp [World.setCell]) ?_ (fun k hk => Below.heap_setCell w _ _ k hk)
    rw [← hA e]
    exact heap_setCell_same w _ off _ _ _ hb
/-! ### calls -/
theorem callO_f {j : FuncId} {vs : List SV} {d : List (BitVec 8)} {ns1 : List Nat} {v1 : SV} {T size len : Nat} {xs : List Value} (h1 : FSQ C S ns1 v1 d) (h : ∀ (e : Env) w, FS w 1 (v1.den e) d.length (valsL .u8 d) → Calls Try.prog j (vs.map (·.den e)).toArray w (RetOwn w T size len xs)) : CallO C S ns1 j vs T size len xs := fun S' e a w hS hq => h e w (h1 S' e a w hq hS)
/-- An object whose cells hang on names. -/
def CallPE (C : Ctx) (S : St) (rb : List Nat) (n T j : Nat) (vs : List SV) (A' : SA) (v : Value) : Prop := ∀ (S' : St) e a w, Holds C S' e a w → (∀ q ∈ rb, S'.res q = S.res q) → Calls Try.prog j (vs.map (·.den e)).toArray w (RetP w (e n).b T (A'.den e) v)
theorem callPE_0 {n T j : Nat} {vs : List SV} {A A' : SA} {v : Value} (hr : S.res n = some (.blk n T A)) (h : ∀ (e : Env) w, Blk w (e n).b (A.den e) T → Calls Try.prog j (vs.map (·.den e)).toArray w (RetP w (e n).b T (A'.den e) v)) : CallPE C S [n] n T j vs A' v := fun S' e a w hS hq => by
  obtain ⟨fr, hb, hfr⟩ := res_blk hS ((hq n (by simp)).trans hr)
  rw [hfr rfl] at hb
  exact h e w hb
theorem op_callPE {f : FuncId} {xs : Array Operand} {ats : Array TypeId} {vs : List SV} {rb : List Nat} {j n T : Nat} {A A' : SA} {v : Value} (ho : o.op = .call { callee := .value (.func f), args := xs, argTypes := ats }) (hg : o.guard = none) (hd : dstB o.dst C.nt = true) (hxs : EvS S xs.toList vs) (hc' : tabLook calT f = some j)
    (hr : S.res n = some (.blk n T A)) (hcon : CallPE C S rb n T j vs A' v) :
    OpG C Try.prog ops o S ⟨xs.toList.flatMap opT, n :: (A'.sup ++ rb), dw o.dst (.c v), [(n, some (.blk n T A'))], []⟩ := by
  refine opG_mk hg fun S' h1 h2 h3 e a w hS => ?_
  unfold Oper.wp
  rw [call_hop ho hxs hc' h1 hS]
  refine Calls.mono (hcon S' e a w hS fun q hq => h2 q (by simp [hq])) ?_
  rintro r w' ⟨rfl, hb, hx⟩
  exact ⟨e, (hS.writeX ((h2 n (by simp)).trans hr) hx hb).put hd (.c v)⟩
section
variable {l : List Oper} {t : List (Nat × SV)} {h : List (Nat × Option Res)} {d : Nat} {f j : FuncId} {xs : Array Operand} {ats : Array TypeId} {vs : List SV}
theorem walk1_callPE {K : St → Prop} (A' : SA) {n T : Nat} {A : SA} {vs' : List SV} (ho : o.op = .call { callee := .value (.func f), args := xs, argTypes := ats }) (hdn : o.dst = some d) (hg : o.guard = none) (hd : dstB o.dst C.nt = true) (hxs : EvS ⟨t, h⟩ xs.toList vs) (hp : vs = .p n 0 :: vs') (h1 : (St.mk t h).res n = some (.blk n T A)) (hc' : tabLook calT f = some j)
    (hK : ∃ rb v, CallPE C ⟨t, h⟩ rb n T j vs A' v ∧ Walk1 C Try.prog ops l ⟨(d, .c v) :: t, (n, some (.blk n T A')) :: h⟩ K) : Walk1 C Try.prog ops (o :: l) ⟨t, h⟩ K := by
  obtain ⟨rb, v, h2, h4⟩ := hK
  have := op_callPE (C := C) (ops := ops) ho hg hd hxs hc' h1 h2
  rw [hdn] at this
  exact ⟨_, this, rfl, h4⟩
theorem walk1_callPE0 {K : St → Prop} (A' : SA) {n T : Nat} {A : SA} {vs' : List SV} (ho : o.op = .call { callee := .value (.func f), args := xs, argTypes := ats }) (hdn : o.dst = none) (hg : o.guard = none) (hxs : EvS ⟨t, h⟩ xs.toList vs) (hp : vs = .p n 0 :: vs') (h1 : (St.mk t h).res n = some (.blk n T A)) (hc' : tabLook calT f = some j)
    (hK : ∃ rb v, CallPE C ⟨t, h⟩ rb n T j vs A' v ∧ Walk1 C Try.prog ops l ⟨t, (n, some (.blk n T A')) :: h⟩ K) : Walk1 C Try.prog ops (o :: l) ⟨t, h⟩ K := by
  obtain ⟨rb, v, h2, h4⟩ := hK
  have := op_callPE (C := C) (ops := ops) ho hg (by rw [hdn]; rfl) hxs hc' h1 h2
  rw [hdn] at this
  exact ⟨_, this, rfl, h4⟩
theorem walk_callPE {x : List Nat} {acc : List OS} {K : St → List OS → Prop} (A' : SA) {n T : Nat} {A : SA} {vs' : List SV} (ho : o.op = .call { callee := .value (.func f), args := xs, argTypes := ats }) (hdn : o.dst = some d) (hg : o.guard = none) (hd : dstB o.dst C.nt = true) (hxs : EvS ⟨t, h⟩ xs.toList vs) (hp : vs = .p n 0 :: vs') (h1 : (St.mk t h).res n = some (.blk n T A)) (hc' : tabLook calT f = some j)
    (hK : ∃ rb v, CallPE C ⟨t, h⟩ rb n T j vs A' v ∧ WalkTo C Try.prog ops [] l ⟨(d, .c v) :: t, (n, some (.blk n T A')) :: h⟩ (⟨x ++ xs.toList.flatMap opT, n :: (A'.sup ++ rb), [(d, .c v)], [(n, some (.blk n T A'))], []⟩ :: acc) K) : WalkTo C Try.prog ops x (o :: l) ⟨t, h⟩ acc K := by
  obtain ⟨rb, v, h2, h4⟩ := hK
  have := op_callPE (C := C) (ops := ops) ho hg hd hxs hc' h1 h2
  rw [hdn] at this
  exact ⟨⟨_, _, _, _, _⟩, opG_more x this, rfl, h4⟩
theorem walk_callPE0 {x : List Nat} {acc : List OS} {K : St → List OS → Prop} (A' : SA) {n T : Nat} {A : SA} {vs' : List SV} (ho : o.op = .call { callee := .value (.func f), args := xs, argTypes := ats }) (hdn : o.dst = none) (hg : o.guard = none) (hxs : EvS ⟨t, h⟩ xs.toList vs) (hp : vs = .p n 0 :: vs') (h1 : (St.mk t h).res n = some (.blk n T A)) (hc' : tabLook calT f = some j)
    (hK : ∃ rb v, CallPE C ⟨t, h⟩ rb n T j vs A' v ∧ WalkTo C Try.prog ops [] l ⟨t, (n, some (.blk n T A')) :: h⟩ (⟨x ++ xs.toList.flatMap opT, n :: (A'.sup ++ rb), [], [(n, some (.blk n T A'))], []⟩ :: acc) K) : WalkTo C Try.prog ops x (o :: l) ⟨t, h⟩ acc K := by
  obtain ⟨rb, v, h2, h4⟩ := hK
  have := op_callPE (C := C) (ops := ops) ho hg (by rw [hdn]; rfl) hxs hc' h1 h2
  rw [hdn] at this
  exact ⟨⟨_, _, _, _, _⟩, opG_more x this, rfl, h4⟩
theorem walk1_callPL {K0 : St → Prop} (q d0 : Nat) (A' : SA) {n T : Nat} {A : SA} {R : Res} {K1 : World → Value → Prop} {vs' : List SV} (ho : o.op = .call { callee := .value (.func f), args := xs, argTypes := ats }) (hdn : o.dst = some d) (hg : o.guard = none) (hd : dstB o.dst C.nt = true) (hxs : EvS ⟨t, h⟩ xs.toList vs) (hp : vs = .p n 0 :: vs') (h1 : (St.mk t h).res n = some (.blk n T A)) (hq : (St.mk t h).res q = some R) (hR : IsOwn R q K1) (hc' : tabLook calT f = some j) (hdq : (Nat.beq d0 n || Nat.beq d0 q) = false) (hf : freshB ⟨t, h⟩ d0 = true)
    (hK : ∃ rb cells K v R', CallPL C ⟨t, h⟩ rb n q T j vs cells K v ∧ (∀ e, A'.den e = cells (e d0).v) ∧ IsOwn R' d0 K ∧ Walk1 C Try.prog ops l ⟨(d, .c v) :: t, (n, some (.blk n T A')) :: (d0, some R') :: (q, none) :: h⟩ K0) : Walk1 C Try.prog ops (o :: l) ⟨t, h⟩ K0 := by
  obtain ⟨rb, cells, K, v, R', h2, h3, h4, h5⟩ := hK
  have := op_callPL (C := C) (ops := ops) ho hg hd hxs hc' h1 hq hR hdq h3 h4 h2
  rw [hdn] at this
  exact ⟨_, this, by simp [hf], h5⟩
theorem walk1_callPL0 {K0 : St → Prop} (q d0 : Nat) (A' : SA) {n T : Nat} {A : SA} {R : Res} {K1 : World → Value → Prop} {vs' : List SV} (ho : o.op = .call { callee := .value (.func f), args := xs, argTypes := ats }) (hdn : o.dst = none) (hg : o.guard = none) (hxs : EvS ⟨t, h⟩ xs.toList vs) (hp : vs = .p n 0 :: vs') (h1 : (St.mk t h).res n = some (.blk n T A)) (hq : (St.mk t h).res q = some R) (hR : IsOwn R q K1) (hc' : tabLook calT f = some j) (hdq : (Nat.beq d0 n || Nat.beq d0 q) = false) (hf : freshB ⟨t, h⟩ d0 = true)
    (hK : ∃ rb cells K v R', CallPL C ⟨t, h⟩ rb n q T j vs cells K v ∧ (∀ e, A'.den e = cells (e d0).v) ∧ IsOwn R' d0 K ∧ Walk1 C Try.prog ops l ⟨t, (n, some (.blk n T A')) :: (d0, some R') :: (q, none) :: h⟩ K0) : Walk1 C Try.prog ops (o :: l) ⟨t, h⟩ K0 := by
  obtain ⟨rb, cells, K, v, R', h2, h3, h4, h5⟩ := hK
  have := op_callPL (C := C) (ops := ops) ho hg (by rw [hdn]; rfl) hxs hc' h1 hq hR hdq h3 h4 h2
  rw [hdn] at this
  exact ⟨_, this, by simp [hf], h5⟩
theorem walk_callPL {x : List Nat} {acc : List OS} {K0 : St → List OS → Prop} (q d0 : Nat) (A' : SA) {n T : Nat} {A : SA} {R : Res} {K1 : World → Value → Prop} {vs' : List SV} (ho : o.op = .call { callee := .value (.func f), args := xs, argTypes := ats }) (hdn : o.dst = some d) (hg : o.guard = none) (hd : dstB o.dst C.nt = true) (hxs : EvS ⟨t, h⟩ xs.toList vs) (hp : vs = .p n 0 :: vs') (h1 : (St.mk t h).res n = some (.blk n T A)) (hq : (St.mk t h).res q = some R) (hR : IsOwn R q K1) (hc' : tabLook calT f = some j) (hdq : (Nat.beq d0 n || Nat.beq d0 q) = false) (hf : freshB ⟨t, h⟩ d0 = true)
    (hK : ∃ rb cells K v R', CallPL C ⟨t, h⟩ rb n q T j vs cells K v ∧ (∀ e, A'.den e = cells (e d0).v) ∧ IsOwn R' d0 K ∧ WalkTo C Try.prog ops [] l ⟨(d, .c v) :: t, (n, some (.blk n T A')) :: (d0, some R') :: (q, none) :: h⟩ (⟨x ++ xs.toList.flatMap opT, n :: q :: rb, [(d, .c v)], [(n, some (.blk n T A')), (d0, some R'), (q, none)], [d0]⟩ :: acc) K0) : WalkTo C Try.prog ops x (o :: l) ⟨t, h⟩ acc K0 := by
  obtain ⟨rb, cells, K, v, R', h2, h3, h4, h5⟩ := hK
  have := op_callPL (C := C) (ops := ops) ho hg hd hxs hc' h1 hq hR hdq h3 h4 h2
  rw [hdn] at this
  exact ⟨⟨_, _, _, _, _⟩, opG_more x this, by simp [hf], h5⟩
theorem walk_callPL0 {x : List Nat} {acc : List OS} {K0 : St → List OS → Prop} (q d0 : Nat) (A' : SA) {n T : Nat} {A : SA} {R : Res} {K1 : World → Value → Prop} {vs' : List SV} (ho : o.op = .call { callee := .value (.func f), args := xs, argTypes := ats }) (hdn : o.dst = none) (hg : o.guard = none) (hxs : EvS ⟨t, h⟩ xs.toList vs) (hp : vs = .p n 0 :: vs') (h1 : (St.mk t h).res n = some (.blk n T A)) (hq : (St.mk t h).res q = some R) (hR : IsOwn R q K1) (hc' : tabLook calT f = some j) (hdq : (Nat.beq d0 n || Nat.beq d0 q) = false) (hf : freshB ⟨t, h⟩ d0 = true)
    (hK : ∃ rb cells K v R', CallPL C ⟨t, h⟩ rb n q T j vs cells K v ∧ (∀ e, A'.den e = cells (e d0).v) ∧ IsOwn R' d0 K ∧ WalkTo C Try.prog ops [] l ⟨t, (n, some (.blk n T A')) :: (d0, some R') :: (q, none) :: h⟩ (⟨x ++ xs.toList.flatMap opT, n :: q :: rb, [], [(n, some (.blk n T A')), (d0, some R'), (q, none)], [d0]⟩ :: acc) K0) : WalkTo C Try.prog ops x (o :: l) ⟨t, h⟩ acc K0 := by
  obtain ⟨rb, cells, K, v, R', h2, h3, h4, h5⟩ := hK
  have := op_callPL (C := C) (ops := ops) ho hg (by rw [hdn]; rfl) hxs hc' h1 hq hR hdq h3 h4 h2
  rw [hdn] at this
  exact ⟨⟨_, _, _, _, _⟩, opG_more x this, by simp [hf], h5⟩
theorem walk1_callNL {K0 : St → Prop} (q : Nat) (A' : SA) (ho : o.op = .call { callee := .value (.func f), args := xs, argTypes := ats }) (hdn : o.dst = some d) (hg : o.guard = none) (hd : dstB o.dst C.nt = true) (hf : freshB ⟨t, h⟩ d = true) (hfq : freshB ⟨t, h⟩ q = true) (hqn : Nat.beq d q = false) (hAs : subB A'.sup [q] = true) (hxs : EvS ⟨t, h⟩ xs.toList vs) (hc' : tabLook calT f = some j)
    (hK : ∃ rb T cells K R', CallNL C ⟨t, h⟩ rb T j vs cells K ∧ (∀ e, A'.den e = cells (e q).v) ∧ IsOwn R' q K ∧ Walk1 C Try.prog ops l ⟨(d, .p d 0) :: t, (d, some (.blk d T A')) :: (q, some R') :: h⟩ K0) : Walk1 C Try.prog ops (o :: l) ⟨t, h⟩ K0 := by
  obtain ⟨rb, T, cells, K, R', h1, h2, h3, h4⟩ := hK
  exact ⟨_, op_callNL (C := C) (ops := ops) ho hdn hg hd hxs hc' hqn h2 hAs h3 h1, by simp [hf, hfq], h4⟩
theorem walk_callNL {x : List Nat} {acc : List OS} {K0 : St → List OS → Prop} (q : Nat) (A' : SA) (ho : o.op = .call { callee := .value (.func f), args := xs, argTypes := ats }) (hdn : o.dst = some d) (hg : o.guard = none) (hd : dstB o.dst C.nt = true) (hf : freshB ⟨t, h⟩ d = true) (hfq : freshB ⟨t, h⟩ q = true) (hqn : Nat.beq d q = false) (hAs : subB A'.sup [q] = true) (hxs : EvS ⟨t, h⟩ xs.toList vs) (hc' : tabLook calT f = some j)
    (hK : ∃ rb T cells K R', CallNL C ⟨t, h⟩ rb T j vs cells K ∧ (∀ e, A'.den e = cells (e q).v) ∧ IsOwn R' q K ∧ WalkTo C Try.prog ops [] l ⟨(d, .p d 0) :: t, (d, some (.blk d T A')) :: (q, some R') :: h⟩ (⟨x ++ xs.toList.flatMap opT, rb, [(d, .p d 0)], [(d, some (.blk d T A')), (q, some R')], [d, q]⟩ :: acc) K0) : WalkTo C Try.prog ops x (o :: l) ⟨t, h⟩ acc K0 := by
  obtain ⟨rb, T, cells, K, R', h1, h2, h3, h4⟩ := hK
  exact ⟨⟨_, _, _, _, _⟩, opG_more x (op_callNL (C := C) (ops := ops) ho hdn hg hd hxs hc' hqn h2 hAs h3 h1), by simp [hf, hfq], h4⟩
end
end Go.Proofs.Ytgjlpnendljcaaa

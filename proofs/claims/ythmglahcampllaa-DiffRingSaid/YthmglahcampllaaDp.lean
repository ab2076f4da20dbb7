/- What is proved here: what the pushing of times computes. Condition: the wishes can be read, and may be. -/
import Derived.Test.YthmglahcampllaaDm
namespace Go.Proofs.Ythmglahcampllaa
open Go Go.RowKit
namespace Df
attribute [local go_sem] KW.cell KW.frozen
theorem info3 : (Try.prog.info? 3).map (fun i => (i.zero, i.size, i.bytes)) = some (some (.int .i64 0), 1, 8) := by kernel_rfl
theorem made_zero (n : Nat) : madeCells (Value.int .i64 0).cells n = ints (List.replicate n 0) := by
  unfold madeCells ints
  apply Array.ext
  · simp
  · intro i h1 h2
    simp [Value.cells, Nat.mod_one]
theorem run_made (n : Nat) (hn : n ≤ 64) (w : World) : (Instr.makeSlice 25 (.int .i64 (n : Int)) (.int .i64 (n : Int))).run Try.prog w = .ok (.slice (some ⟨w.heap.size, 0, none⟩) n n) (w.alloc (.cells (ints (List.replicate n 0)) 3)) := by
  obtain ⟨i0, hi, hz0, hz1, hz2⟩ := info_parts info3
  have hr := run_make (P := Try.prog) w 25 3 i0 (.int .i64 0) Try.underlying25 hi hz0 .i64 .i64 n n (by omega) (Int.le_refl _) (by rw [hz2]; omega) (by omega)
  simp only [Int.toNat_natCast, hz1, Nat.mul_one] at hr
  rw [made_zero] at hr
  exact hr
theorem PM.two (B : Nat) (w0 w : World) (hb : Below B w0 w) (hB : B ≤ w.heap.size) (n : Nat) : PM B w0 ((w.alloc (.cells (ints (List.replicate n 0)) 3)).alloc (.cells (ints (List.replicate n 0)) 3)) w.heap.size (w.heap.size + 1) (List.replicate n 0) (List.replicate n 0) := by
  refine ⟨?_, ?_, hB, by omega, by omega, (hb.alloc hB _).alloc (by simp; omega) _⟩
  · rw [Below.heap_alloc _ _ _ (by simp)]
    exact heap_alloc_new w _
  · have := heap_alloc_new (w.alloc (.cells (ints (List.replicate n 0)) 3)) (.cells (ints (List.replicate n 0)) 3)
    simpa using this
theorem PM.two' (B : Nat) (w0 w : World) (hb : Below B w0 w) (hB : B ≤ w.heap.size) (n : Nat) : PM B w0 ((w.alloc (.cells (ints (List.replicate n 0)) 3)).alloc (.cells (ints (List.replicate n 0)) 3)) (w.heap.size + 1) w.heap.size (List.replicate n 0) (List.replicate n 0) := by
  have h := PM.two B w0 w hb hB n
  exact ⟨h.bb, h.bx, h.hb, h.hx, Ne.symm h.ne, h.bl⟩
theorem relax_pos {s : St} {k i j : Nat} {a : Af} {t : Int} (h1 : bI a = i) (h2 : bJ a = j) (ht : at_ s.x i + bG a = t) (h : at_ s.x j < t) : relax s k a = ⟨s.x.set j t, s.b.set j k, j⟩ := by
  subst h1 h2 ht
  unfold relax
  rw [if_pos h]
theorem relax_neg {s : St} {k i j : Nat} {a : Af} (h1 : bI a = i) (h2 : bJ a = j) (h : ¬ at_ s.x j < at_ s.x i + bG a) : relax s k a = s := by
  subst h1 h2
  unfold relax
  rw [if_neg h]
set_option maxRecDepth 100000 in
set_option maxHeartbeats 4000000 in
theorem push_run (n : Nat) (ao : Option Addr) (c : Nat) (l : List Af) (w : World) (hn : n ≤ 64) (hl : l.length ≤ 256) (hf : ∀ a ∈ l, Fit n a) (hv : AfP (.slice ao l.length c) l w) :
    Calls Try.prog 50 #[.int .i64 n, .slice ao l.length c] w fun e w' => ∃ s gx gb, e = .returned (.tuple #[.slice (some ⟨gx, 0, none⟩) n n, .slice (some ⟨gb, 0, none⟩) n n, .int .i64 s.last]) ∧ Pushed n l s ∧ PM w.heap.size w w' gx gb s.x s.b := by
  have HV := Lib.hid hv
  have HF := Lib.hid hf
  have hmk := run_made n hn
  clear hv hf
  go_enter Try.func50, Try.ntmps50
  go_wp2_with fail
  go_step3
  go_upto_region 1 with fail
  go_cut [7, 8] (fun s7 s8 wx => ∃ gx gb, s7 = .slice (some ⟨gx, 0, none⟩) n n ∧ s8 = .slice (some ⟨gb, 0, none⟩) n n ∧ PM w.heap.size w wx gx gb (rnd n l 0).x (rnd n l 0).b)
  case first =>
    go_region
    all_goals
      go_wp2_with fail
      go_meet
      first
        | exact ⟨_, _, rfl, rfl, (PM.two w.heap.size w w (Below.refl _ _) (Nat.le_refl _) n).drew⟩
        | exact ⟨_, _, rfl, rfl, (PM.two' w.heap.size w w (Below.refl _ _) (Nat.le_refl _) n).drew⟩
  case rest =>
    clear hmk
    obtain ⟨gx, gb, rfl, rfl, hp⟩ := hcut
    go_wp2_with fail
    go_step3
    go_wp2_with fail
    go_loopg [9, 19] (n + 1) (fun gg s9 s19 wr => ∃ r : Nat, gg = n + 1 - r ∧ r ≤ n + 1 ∧ s19 = .int .i64 r ∧ s9 = .int .i64 (rnd n l r).last ∧ Hid (∀ q, 1 ≤ q → q ≤ r → 0 ≤ (rnd n l q).last) ∧ PM w.heap.size w wr gx gb (rnd n l r).x (rnd n l r).b)
    case atStart => exact ⟨0, rfl, Nat.zero_le _, rfl, rfl, Lib.hid fun q h1 h2 => absurd h1 (by omega), hp⟩
    case round =>
      clear hp
      obtain ⟨r, rfl, hr, rfl, rfl, HQ, hp⟩ := hrel
      by_cases hlt : r < n + 1
      · have hd : decide ((r : Int) < (n : Int) + 1) = true := by simp; omega
        have hp0 : PM w.heap.size w wr gx gb (upto l { rnd n l r with last := -1 } 0).x (upto l { rnd n l r with last := -1 } 0).b := hp
        clear hp
        obtain ⟨wo, rfl⟩ : ∃ wo : World, wo = wr := ⟨_, rfl⟩
        go_wp2_with fail
        go_loopg [9, 23] l.length (fun gg s9 s23 wr => ∃ k : Nat, gg = l.length - k ∧ k ≤ l.length ∧ s23 = .int .i64 k ∧ s9 = .int .i64 (upto l { rnd n l r with last := -1 } k).last ∧ PM w.heap.size w wr gx gb (upto l { rnd n l r with last := -1 } k).x (upto l { rnd n l r with last := -1 } k).b)
        case atStart => exact ⟨0, rfl, Nat.zero_le _, rfl, rfl, hp0⟩
        case round =>
          clear hp0
          obtain ⟨k, rfl, hk, rfl, rfl, hp⟩ := hrel
          by_cases hkl : k < l.length
          · have hdk : decide ((k : Int) < (l.length : Int)) = true := by simp; omega
            obtain ⟨g, rfl, hg, e0, e1, e2⟩ := (HV.out.kept hp.bl).at_ k hkl
            have hs := upto_sz HF.out hl hn r k (by omega) (by omega)
            obtain ⟨f1, f2, f3, f4, f5, f6⟩ := HF.out _ (List.getElem_mem hkl)
            have hxl : (upto l { rnd n l r with last := -1 } k).x.length = n := (upto_len l _ k).1.trans (rnd_len n l r).1
            have hbl : (upto l { rnd n l r with last := -1 } k).b.length = n := (upto_len l _ k).2.trans (rnd_len n l r).2
            have hrec : upto l { rnd n l r with last := -1 } (k + 1) = relax (upto l { rnd n l r with last := -1 } k) k l[k] := by
              rw [← elt_get hkl]; rfl
            have HR := Lib.hid hrec
            clear hrec
            obtain ⟨S', hS'⟩ : ∃ S', Hid (upto l { rnd n l r with last := -1 } (k + 1) = S') := ⟨_, Lib.hid rfl⟩
            rw [hS'.out] at HR
            generalize upto l { rnd n l r with last := -1 } k = S at *
            obtain ⟨i, hi⟩ : ∃ i : Nat, (l[k]).1 = i := ⟨(l[k]).1.toNat, by omega⟩
            obtain ⟨j, hj⟩ : ∃ j : Nat, (l[k]).2.1 = j := ⟨(l[k]).2.1.toNat, by omega⟩
            have h1 : bI l[k] = i := by unfold bI; rw [hi]; rfl
            have h2 : bJ l[k] = j := by unfold bJ; rw [hj]; rfl
            have h3 : (l[k]).2.2 = bG l[k] := rfl
            rw [hi] at e0 f1 f2
            rw [hj] at e1 f3 f4
            rw [h3] at e2 f5 f6
            have ci := hp.cx i (by omega)
            have cj := hp.cx j (by omega)
            have cb := hp.cb j (by omega)
            have fx := hp.fx j
            have fb := hp.fb j
            have si := hs i
            have sj := hs j
            have nxb := hp.ne
            have nbx := Ne.symm hp.ne
            have zx := block_lt hp.bx
            have zb := block_lt hp.bb
            have RP := Lib.hid (fun t => relax_pos (s := S) (k := k) (t := t) h1 h2)
            have RN := Lib.hid (relax_neg (s := S) (k := k) h1 h2)
            have HP := Lib.hid hp
            clear hi hj h1 h2 h3 hs hp
            generalize bG l[k] = G at *
            generalize at_ S.x i = xi at *
            generalize at_ S.x j = xj at *
            generalize at_ S.b j = bj at *
            have x1 : IntKind.i64.wrap (xi + G) = xi + G := wrap_of (by omega) (by omega)
            by_cases ht : xj < xi + G
            · have hdt : decide (xj < xi + G) = true := by simpa using ht
              have hS := RP.out (xi + G) rfl ht
              rw [← HR.out] at hS
              have HS := Lib.hid hS
              clear hS ht RP RN HR
              go_wp2_with fail
              go_quiet (fail)
              go_wp2_with fail
              go_region
              all_goals
                go_wp2_with fail
                go_roundg (l.length - (k + 1))
                case measure => omega
                case rel => exact ⟨k + 1, rfl, by omega, by go_num, by rw [hS'.out, HS.out], by rw [hS'.out, HS.out]; exact ((((HP.out.alloc _).drewN _).setX _ _).setB _ _)⟩
            · have hdt : decide (xj < xi + G) = false := by simpa using ht
              have hS := RN.out ht
              rw [← HR.out] at hS
              have HS := Lib.hid hS
              clear hS ht RP RN HR
              go_wp2_with fail
              go_quiet (fail)
              go_wp2_with fail
              go_roundg (l.length - (k + 1))
              case measure => omega
              case rel => exact ⟨k + 1, rfl, by omega, by go_num, by rw [hS'.out, HS.out], by rw [hS'.out, HS.out]; exact ((HP.out.alloc _).drewN _)⟩
          · obtain rfl : k = l.length := by omega
            have hdk : decide ((l.length : Int) < (l.length : Int)) = false := by simp
            obtain ⟨S, hS⟩ : ∃ S, Hid (rnd n l (r + 1) = S) := ⟨_, Lib.hid rfl⟩
            have hS' : upto l { rnd n l r with last := -1 } l.length = S := hS.out
            rw [hS'] at hp ⊢
            clear hS'
            have HP := Lib.hid hp
            clear hp
            by_cases hlast : S.last < 0
            · have hdl : decide (S.last < 0) = true := by simpa using hlast
              have PU : Hid (Pushed n l S) := Lib.hid ⟨r + 1, by omega, by omega, hS.out.symm, .inl hlast, fun q h1 h2 => HQ.out q h1 (by omega)⟩
              clear hlast HQ
              go_wp2_with fail
              rw [Exit.noGoto_ret]
              go_ret3
              exact ⟨S, gx, gb, rfl, PU.out, HP.out⟩
            · have hdl : decide (S.last < 0) = false := by simpa using hlast
              have HQ' : Hid (∀ q, 1 ≤ q → q ≤ r + 1 → 0 ≤ (rnd n l q).last) := by
                refine Lib.hid fun q h1 h2 => ?_
                by_cases e : q = r + 1
                · rw [e, hS.out]; omega
                · exact HQ.out q h1 (by omega)
              clear hlast HQ
              go_wp2_with fail
              go_roundg (n + 1 - (r + 1))
              case measure => omega
              case rel => exact ⟨r + 1, rfl, by omega, by go_num, by rw [hS.out], HQ'.out, by rw [hS.out]; exact HP.out⟩
      · obtain rfl : r = n + 1 := by omega
        have hd : decide (((n + 1 : Nat) : Int) < (n : Int) + 1) = false := by simp
        have PU : Hid (Pushed n l (rnd n l (n + 1))) := Lib.hid ⟨n + 1, by omega, by omega, rfl, .inr rfl, fun q h1 h2 => HQ.out q h1 (by omega)⟩
        have HP := Lib.hid hp
        clear hp HQ
        generalize rnd n l (n + 1) = S at *
        go_wp2_with fail
        rw [Exit.noGoto_ret]
        go_ret3
        exact ⟨S, gx, gb, rfl, PU.out, HP.out⟩
end Df
end Go.Proofs.Ythmglahcampllaa

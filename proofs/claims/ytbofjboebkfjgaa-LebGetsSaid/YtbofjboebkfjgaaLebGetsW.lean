/-
  LebGets: what any bytes begin with, or the fault, is the document's; the bytes stay; and again when the same memory holds others. The law's walk. Condition: none beyond the form's own reach (each slice takes at most 2^47 - 4096 bytes).
-/
import Derived.Test.YtbofjboebkfjgaaRows
import Derived.Test.YtbofjboebkfjgaaWords
import Derived.Test.YtbofjboebkfjgaaLebGet
import Derived.Test.YtbofjboebkfjgaaLebRefGet
import Derived.Test.YtbofjboebkfjgaaLebLent
namespace Go.Proofs.Ytbofjboebkfjgaa
open Go.RowKit


set_option maxRecDepth 100000 in
set_option maxHeartbeats 800000 in
theorem lebGets_walk (A : Option Addr) (n c : Nat) (bs : List UInt8) (w : World) (hr : Reads w w.heap.size 1 A n (bs.map bv)) (hn : n ≤ 140737488351232) :
    Calls Try.prog 3 #[.slice A n c] w fun e w' => e = .returned (.bool true) ∧ Below w.heap.size w w' := by
  have hlen : bs.length = n := by have := hr.1; simpa using this
  have HL := hide (lent_any A n c bs w hr hn)
  clear hr
  go_enter Try.func3, Try.ntmps3
  go_wp2_with (go_at_call 11; refine (unhide HL).mono ?_; rintro e w1 ⟨g, cap, rfl, hcap, hg, ho1, hb1⟩)
  clear HL
  go_loopg [4] 2 (fun q t wr => ∃ (k : Nat) (cs : List UInt8), k + q = 2 ∧ t = .int .i64 (k : Int) ∧ cs.length = n ∧ wr.ownsRow w.heap.size 5 1 (.slice (some ⟨g, 0, none⟩) (n + 20 : Nat) cap) (n + 20) ((cs ++ mk 20).map bv) ∧ Below w.heap.size w wr)
  case atStart => exact ⟨0, bs, rfl, rfl, hlen, ho1, hb1⟩
  case round =>
    obtain ⟨k, cs, hk, rfl, hcs, ho, hb⟩ := hrel
    clear ho1 hb1
    by_cases hlt : k < 2
    · obtain ⟨q, rfl⟩ : ∃ q, gk = q + 1 := ⟨gk - 1, by omega⟩
      obtain ⟨r, hres⟩ : ∃ r, getS cs = r := ⟨_, rfl⟩
      obtain ⟨ra, rk, rf⟩ := r
      have HR := Lib.hid hres
      have HRd := hide (Reads.of_own ho)
      have hgl := (ho.lt g rfl).2
      have hcm : cap ≤ 9223372036854775807 := own_capm ho
      have HC : Hid (0 + n ≤ maxLen ∧ (0 + n) * 1 ≤ 140737488355328) := cap1 (by omega)
      have HO := hide ho
      clear hres ho hlen
      go_wp2_with (at_builtin; refine wpList_app _ rfl (.tmp 18) (.tmp 19) 22 rfl elem_u8 _ (.slice none 0 0) 0 [] rfl (World.ownsRow_nil _ wr.heap.size _ _) _ _ n cap _ rfl ((unhide HRd).front hcs) (bv_one _) HC.out (Nat.le_refl _) ?_; intro v2 w2 hown2 hg2 hat2)
      have hb2 : Below wr.heap.size wr w2 := grownBy_below hg2 (Nat.le_refl _) (by simp [Value.ownBlock])
      have ho2 := hide ((unhide HO).kept hg2 (.inr (by simp [Value.ownBlock])))
      have HG2 := hide ((Reads.of_own (unhide ho2)).front hcs)
      obtain ⟨A2, c2, rfl⟩ := hown2.shape
      have hI2 : Reads w2 w2.heap.size 1 A2 n (cs.map bv) := by have := Reads.of_own hown2; simpa using this
      have HI2 := hide hI2
      have hK := hide (kept_any A2 g n cap n c2 w2.heap.size cs cs w2 hcs hcap (Reads.of_own (unhide ho2)) HI2.out hcm)
      have hT := hide (turned_any w.heap.size g n (n + 20) cap cs (mk 20) w2 hcs (unhide ho2) (by omega))
      rw [show (cs == cs) = true by simp] at hK
      have hbb : Hid (Below w.heap.size w w2) := hb.trans (hb2.mono hb.size)
      clear hown2 hg2 hat2 HO HRd hb2 hb hI2
      have hz : 0 + n = n := Nat.zero_add n
      go_wp2_with (go_at_call 12; refine (get_r _ (unhide HG2) HR.out).mono ?_; rintro e w3 ⟨rfl, rfl⟩)
      go_wp2_with (go_at_call 13; refine (refGet_r _ HI2.out HR.out).mono ?_; rintro e w3 ⟨rfl, rfl⟩)
      go_wp2_with (go_at_call 14; refine (unhide hK).mono ?_; rintro e w3 ⟨rfl, rfl⟩)
      go_wp2_with (go_at_call 15; refine (unhide hT).mono ?_; rintro e w3 ⟨rfl, ho3, hg3⟩)
      go_roundg q
      case rel => exact ⟨k + 1, cs.map t91, by omega, by go_num, by simpa using hcs, ho3, hbb.out.grown hg3 hbb.out.size (fun _ hj => by cases hj; exact hg)⟩
      case measure => omega
    · go_wp2
      go_ret
      exact ⟨rfl, hb⟩
end Go.Proofs.Ytbofjboebkfjgaa

/- Models: the check sums crc and sha, word by word. -/
import Derived.Test.YtpcojkbljgpecaaE9
namespace Go.Proofs.Ytpcojkbljgpecaa
open Go

/-! ### crc -/
def crcTab : List UInt32 := [0, 274646895, 549293790, 820201905, 1098587580, 1361435347, 1640403810, 1905808397, 2197175160, 2460548119, 2722870694, 2987750089, 3280807620, 3553878443, 3811616794, 4084100981]
def crcHalf (s : UInt32) : UInt32 := shr32 s 4 ^^^ crcTab.getD (s &&& 15).toNat 0
def crcByte (s : UInt32) (c : UInt8) : UInt32 := crcHalf (crcHalf (s ^^^ c.toUInt32))
def crcGo (sum : UInt32) (b : BL) : UInt32 := ~~~ (b.foldl crcByte (~~~ sum))
def crcSum (b : BL) : UInt32 := crcGo 0 b
theorem low15 (s : UInt32) : (s &&& 15).toNat < 16 := by
  rw [UInt32.toNat_and]; exact Nat.lt_of_le_of_lt Nat.and_le_right (by decide)

/-! ### sha -/
def rotl (x : UInt32) (k : Nat) : UInt32 := shl32 x k ||| shr32 x (32 - k)
def down (x : UInt32) (n : Nat) : UInt32 := rotl x (32 - n)
def spread1 (b : BL) : Nat → List UInt32
  | 0 => List.replicate 64 0
  | i + 1 => (spread1 b i).set (i / 4) (shl32 ((spread1 b i).getD (i / 4) 0) 8 ||| (b.getD i 0).toUInt32)
theorem spread1_len (b : BL) : ∀ i, (spread1 b i).length = 64
  | 0 => by simp [spread1]
  | i + 1 => by simp [spread1, spread1_len b i]
def spread2 (b : BL) : Nat → List UInt32
  | 0 => spread1 b 64
  | i + 1 =>
    let w := spread2 b i
    let t := i + 16
    let x := w.getD (t - 2) 0
    let y := w.getD (t - 15) 0
    w.set t ((((down x 17 ^^^ down x 19) ^^^ shr32 x 10) + w.getD (t - 7) 0) + ((down y 7 ^^^ down y 18) ^^^ shr32 y 3) + w.getD (t - 16) 0)
theorem spread2_len (b : BL) : ∀ i, (spread2 b i).length = 64
  | 0 => by simp [spread2, spread1_len]
  | i + 1 => by simp [spread2, spread2_len b i]
def spread (b : BL) : List UInt32 := spread2 b 48
def shaKeys : List UInt32 := [1116352408, 1899447441, 3049323471, 3921009573, 961987163, 1508970993, 2453635748, 2870763221, 3624381080, 310598401, 607225278, 1426881987, 1925078388, 2162078206, 2614888103, 3248222580, 3835390401, 4022224774, 264347078, 604807628, 770255983, 1249150122, 1555081692, 1996064986, 2554220882, 2821834349, 2952996808, 3210313671, 3336571891, 3584528711, 113926993, 338241895, 666307205, 773529912, 1294757372, 1396182291, 1695183700, 1986661051, 2177026350, 2456956037, 2730485921, 2820302411, 3259730800, 3345764771, 3516065817, 3600352804, 4094571909, 275423344, 430227734, 506948616, 659060556, 883997877, 958139571, 1322822218, 1537002063, 1747873779, 1955562222, 2024104815, 2227730452, 2361852424, 2428436474, 2756734187, 3204031479, 3329325298]
structure Eight where
  a : UInt32
  b : UInt32
  c : UInt32
  d : UInt32
  e : UInt32
  f : UInt32
  g : UInt32
  h : UInt32
def Eight.l (s : Eight) : List UInt32 := [s.a, s.b, s.c, s.d, s.e, s.f, s.g, s.h]
def shaFirst (w : List UInt32) (t : Nat) (s : Eight) : UInt32 :=
  s.h + ((down s.e 6 ^^^ down s.e 11) ^^^ down s.e 25) + ((s.e &&& s.f) ^^^ (~~~ s.e &&& s.g)) + shaKeys.getD t 0 + w.getD t 0
def shaSecond (s : Eight) : UInt32 :=
  ((down s.a 2 ^^^ down s.a 13) ^^^ down s.a 22) + (((s.a &&& s.b) ^^^ (s.a &&& s.c)) ^^^ (s.b &&& s.c))
def shaRound (w : List UInt32) (t : Nat) (s : Eight) : Eight :=
  ⟨shaFirst w t s + shaSecond s, s.a, s.b, s.c, s.d + shaFirst w t s, s.e, s.f, s.g⟩
def shaRounds (w : List UInt32) (s : Eight) : Nat → Eight
  | 0 => s
  | t + 1 => shaRound w t (shaRounds w s t)
def eightOf (l : List UInt32) : Eight := ⟨l.getD 0 0, l.getD 1 0, l.getD 2 0, l.getD 3 0, l.getD 4 0, l.getD 5 0, l.getD 6 0, l.getD 7 0⟩
/-- The first i words with others added. -/
def addTo (h x : List UInt32) : Nat → List UInt32
  | 0 => h
  | i + 1 => (addTo h x i).set i ((addTo h x i).getD i 0 + x.getD i 0)
theorem addTo_len (h x : List UInt32) : ∀ i, (addTo h x i).length = h.length
  | 0 => rfl
  | i + 1 => by simp [addTo, addTo_len h x i]
def shaH (h : List UInt32) (b : BL) : List UInt32 := addTo h (shaRounds (spread b) (eightOf h) 64).l 8
theorem shaH_len (h : List UInt32) (b : BL) : (shaH h b).length = h.length := addTo_len _ _ _
structure ShaSt where
  h : List UInt32
  n : Nat
def ShaSt.cells (s : ShaSt) : Array Value := (u32s s.h ++ [Value.int .u64 (s.n : Int)]).toArray
theorem ShaSt.size (s : ShaSt) (h : s.h.length = 8) : s.cells.size = 9 := by simp [ShaSt.cells, u32s, h]
theorem ShaSt.cell {s : ShaSt} (h : s.h.length = 8) (k : Nat) {o : Nat} (ho : o = k) (hk : k < 8) : s.cells[o]? = some (V32 (s.h.getD k 0)) := by
  subst ho
  simp only [ShaSt.cells, List.getElem?_toArray]
  rw [List.getElem?_append_left (by simp [u32s]; omega)]
  simp [u32s, h, hk]
theorem ShaSt.cell_n {s : ShaSt} (h : s.h.length = 8) {o : Nat} (ho : o = 8) : s.cells[o]? = some (.int .u64 (s.n : Int)) := by
  subst ho
  simp only [ShaSt.cells, List.getElem?_toArray]
  rw [List.getElem?_append_right (by simp [u32s, h])]
  simp [u32s, h]
theorem ShaSt.set {s : ShaSt} (h : s.h.length = 8) (k : Nat) {o : Nat} (ho : o = k) (hk : k < 8) (c : UInt32) : s.cells.setIfInBounds o (V32 c) = (ShaSt.mk (s.h.set k c) s.n).cells := by
  subst ho
  apply Array.toList_inj.1
  simp only [ShaSt.cells, Array.toList_setIfInBounds]
  rw [List.set_append, if_pos (by simp [u32s]; omega)]
  simp [u32s, List.map_set]
theorem ShaSt.set_n {s : ShaSt} (h : s.h.length = 8) {o : Nat} (ho : o = 8) (q : Nat) : s.cells.setIfInBounds o (.int .u64 (q : Int)) = (ShaSt.mk s.h q).cells := by
  subst ho
  apply Array.toList_inj.1
  simp only [ShaSt.cells, Array.toList_setIfInBounds]
  rw [List.set_append, if_neg (by simp [u32s, h])]
  simp [u32s, h]
theorem ShaSt.oneA (s : ShaSt) : (s.cells.all (·.oneCell')) = true := by
  simp [ShaSt.cells, u32s, V32, Value.oneCell']
def shaBegin : ShaSt := ⟨[1779033703, 3144134277, 1013904242, 2773480762, 1359893119, 2600822924, 528734635, 1541459225], 0⟩
def shaBlock (s : ShaSt) (b : BL) : ShaSt := ⟨shaH s.h b, (s.n + 64) % 2 ^ 64⟩
def shaLens (n : Nat) (b : BL) : Nat → BL
  | 0 => b
  | i + 1 => (shaLens n b i).set (63 - i) (UInt8.ofNat (n / 2 ^ (8 * i)))
theorem shaLens_len (n : Nat) (b : BL) : ∀ i, (shaLens n b i).length = b.length
  | 0 => rfl
  | i + 1 => by simp [shaLens, shaLens_len n b i]
def shaOut (h : List UInt32) : Nat → BL
  | 0 => List.replicate 32 0
  | i + 1 => (shaOut h i).set i (UInt8.ofNat (shr32 (h.getD (i / 4) 0) (8 * (3 - i % 4))).toNat)
theorem shaOut_len (h : List UInt32) : ∀ i, (shaOut h i).length = 32
  | 0 => by simp [shaOut]
  | i + 1 => by simp [shaOut, shaOut_len h i]
def shaB0 (r : BL) : BL := (r ++ List.replicate (64 - r.length) 0).set r.length 128
theorem shaB0_len (r : BL) (h : r.length ≤ 63) : (shaB0 r).length = 64 := by simp [shaB0]; omega
def shaPad (s : ShaSt) (r : BL) : ShaSt × BL := if 56 ≤ r.length then (shaBlock s (shaB0 r), List.replicate 64 0) else (s, shaB0 r)
def shaEnd (s : ShaSt) (rest0 : BL) : BL :=
  shaOut (shaBlock (shaPad s (rest0.take 63)).1 (shaLens (8 * ((s.n + (rest0.take 63).length) % 2 ^ 64) % 2 ^ 64) (shaPad s (rest0.take 63)).2 8)).h 32
theorem copy0 (r : BL) (h : r.length ≤ 63) : (u8s (List.replicate 64 0)).take 0 ++ (u8s r).take 64 ++ (u8s (List.replicate 64 0)).drop (0 + min r.length 64) = u8s (r ++ List.replicate (64 - r.length) 0) := by
  rw [List.take_zero, List.nil_append, List.take_of_length_le (by simp [u8s]; omega), Nat.zero_add, Nat.min_eq_left (by omega)]
  unfold u8s
  rw [List.map_append, ← List.map_drop, List.drop_replicate]
theorem shaEnd_len (s : ShaSt) (b : BL) : (shaEnd s b).length = 32 := shaOut_len _ _
def shaGo (s : ShaSt) (b : BL) : BL :=
  if h : 64 ≤ b.length then shaGo (shaBlock s (b.take 64)) (b.drop 64) else shaEnd s b
termination_by b.length
decreasing_by simp; omega
def shaSum (b : BL) : BL := shaGo shaBegin b
theorem shaGo_len (s : ShaSt) (b : BL) : (shaGo s b).length = 32 := by
  induction s, b using shaGo.induct with
  | case1 s b h ih => rw [shaGo, dif_pos h]; exact ih
  | case2 s b h => rw [shaGo, dif_neg h]; exact shaEnd_len _ _
theorem shaSum_len (b : BL) : (shaSum b).length = 32 := shaGo_len _ _
end Go.Proofs.Ytpcojkbljgpecaa

/-
  SHA-256 over lists of bytes, as plain functions on natural numbers. No condition.
-/
import Derived.KernelRfl
namespace Go.Proofs.YtllmciiadceinaaGreatDoor
open Go

/-- The words k(0) to k(63). -/
def shaK : List Nat := [1116352408, 1899447441, 3049323471, 3921009573, 961987163, 1508970993, 2453635748, 2870763221, 3624381080, 310598401, 607225278, 1426881987, 1925078388, 2162078206, 2614888103, 3248222580, 3835390401, 4022224774, 264347078, 604807628, 770255983, 1249150122, 1555081692, 1996064986, 2554220882, 2821834349, 2952996808, 3210313671, 3336571891, 3584528711, 113926993, 338241895, 666307205, 773529912, 1294757372, 1396182291, 1695183700, 1986661051, 2177026350, 2456956037, 2730485921, 2820302411, 3259730800, 3345764771, 3516065817, 3600352804, 4094571909, 275423344, 430227734, 506948616, 659060556, 883997877, 958139571, 1322822218, 1537002063, 1747873779, 1955562222, 2024104815, 2227730452, 2361852424, 2428436474, 2756734187, 3204031479, 3329325298]
def shaH : List Nat := [1779033703, 3144134277, 1013904242, 2773480762, 1359893119, 2600822924, 528734635, 1541459225]
/-- A rotation to the right. -/
def rotr (n x : Nat) : Nat := x / 2 ^ n ||| x * 2 ^ (32 - n) % 4294967296
def mix2 (a b x : Nat) : Nat := 0 ^^^ rotr a x ^^^ rotr b x
def mix3 (a b c x : Nat) : Nat := 0 ^^^ rotr a x ^^^ rotr b x ^^^ rotr c x
def be32 (b : List UInt8) (i : Nat) : Nat := (b.getD (4 * i) 0).toNat * 16777216 ||| (b.getD (4 * i + 1) 0).toNat * 65536 ||| (b.getD (4 * i + 2) 0).toNat * 256 ||| (b.getD (4 * i + 3) 0).toNat
def nextW (ws : List Nat) (k : Nat) : Nat :=
  (((ws.getD (k - 16) 0 + (mix2 7 18 (ws.getD (k - 15) 0) ^^^ ws.getD (k - 15) 0 / 8)) % 4294967296 + ws.getD (k - 7) 0) % 4294967296 + (mix2 17 19 (ws.getD (k - 2) 0) ^^^ ws.getD (k - 2) 0 / 1024)) % 4294967296
def extW (b : List UInt8) (ws : List Nat) : List Nat := ws ++ [if ws.length < 16 then be32 b ws.length else nextW ws ws.length]
/-- The first k words of a block. -/
def sched (b : List UInt8) : Nat → List Nat
  | 0 => []
  | k + 1 => extW b (sched b k)
def roundT (v : List Nat) (k w : Nat) : Nat :=
  ((((v.getD 7 0 + mix3 6 11 25 (v.getD 4 0)) % 4294967296 + ((v.getD 4 0 &&& v.getD 5 0) ^^^ ((4294967295 - v.getD 4 0) &&& v.getD 6 0))) % 4294967296 + k) % 4294967296 + w) % 4294967296
def roundU (v : List Nat) : Nat :=
  (mix3 2 13 22 (v.getD 0 0) + ((v.getD 0 0 &&& v.getD 1 0) ^^^ (v.getD 0 0 &&& v.getD 2 0) ^^^ (v.getD 1 0 &&& v.getD 2 0))) % 4294967296
def round (v : List Nat) (k w : Nat) : List Nat :=
  [(roundT v k w + roundU v) % 4294967296, v.getD 0 0, v.getD 1 0, v.getD 2 0, (v.getD 3 0 + roundT v k w) % 4294967296, v.getD 4 0, v.getD 5 0, v.getD 6 0]
def rounds (ws : List Nat) (v : List Nat) : Nat → List Nat
  | 0 => v
  | k + 1 => round (rounds ws v k) (shaK.getD k 0) (ws.getD k 0)
def addB (h : List Nat) (b : List UInt8) : List Nat := List.zipWith (fun x y => (x + y) % 4294967296) h (rounds (sched b 64) h 64)
def word4 (x : Nat) : List UInt8 := [UInt8.ofNat (x / 16777216), UInt8.ofNat (x / 65536), UInt8.ofNat (x / 256), UInt8.ofNat x]
def outB (h : List Nat) : List UInt8 := h.flatMap word4
def padZ (n : Nat) : Nat := (55 + 64 - n % 64) % 64
def pad (s : List UInt8) : List UInt8 := s ++ [128] ++ List.replicate (padZ s.length) 0 ++ (List.range 8).map fun i => UInt8.ofNat (8 * s.length / 2 ^ (8 * (7 - i)))
def blocks (h : List Nat) (b : List UInt8) : Nat → List Nat
  | 0 => h
  | k + 1 => addB (blocks h b k) ((b.drop (64 * k)).take 64)
def sha (s : List UInt8) : List UInt8 := outB (blocks shaH (pad s) ((pad s).length / 64))

end Go.Proofs.YtllmciiadceinaaGreatDoor
